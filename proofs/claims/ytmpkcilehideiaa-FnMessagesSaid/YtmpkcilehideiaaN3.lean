/- Contracts: messages of bytes. -/
import Derived.Test.YtmpkcilehideiaaN2
namespace Go.Proofs.Ytmpkcilehideiaa
open Go Go.RowKit Go.Proofs.Ytmpkcilehideiaa.Eng
set_option linter.unusedSimpArgs false
set_option linter.unusedVariables false
set_option maxRecDepth 100000
set_option maxHeartbeats 4000000
noncomputable section
def numA (l : List Int) (a m : Nat) : Int := (readWord l a m).2
/-- The message that bytes are, if any. -/
def decK (l : List Int) (k : Int) : MessageM :=
  if k = 1 ∨ k = 3 then ⟨k, numA l 1 4, numA l 5 1, ⟨0, 0, 0, 0⟩, 0, ⟨0, []⟩⟩
  else if k = 2 then ⟨k, numA l 1 4, 0, ⟨0, 0, 0, 0⟩, 0, ⟨0, []⟩⟩
  else if k = 4 then ⟨k, 0, 0, ⟨numA l 1 1, numA l 2 4, numA l 6 1, numA l 7 4⟩, 0, ⟨0, []⟩⟩
  else if k = 5 then ⟨k, 0, 0, ⟨0, 0, 0, 0⟩, numA l 1 1, ⟨numA l 2 1, l.drop 3⟩⟩
  else ⟨k, 0, 0, ⟨0, 0, 0, 0⟩, 0, ⟨0, []⟩⟩
def decM (l : List Int) : MessageM := match l with
  | [] => ⟨0, 0, 0, ⟨0, 0, 0, 0⟩, 0, ⟨0, []⟩⟩
  | k :: _ => decK l k
def decB (l : List Int) : Bool := decide (msgFault (decM l) = 0) && decide (msgB (decM l) = l)
theorem numA_ok {l : List Int} (hb : Eng.Bytes l) (a m : Nat) (hm : m ≤ 4) : 0 ≤ numA l a m ∧ numA l a m ≤ 4294967295 := by
  unfold numA readWord
  split
  · split
    · have h1 := rd_bound (bytes_sub hb a m) m (by simp; omega)
      rw [List.take_of_length_le (by rw [List.length_take]; omega)] at h1
      have h2 : (256 : Int) ^ m ≤ 4294967296 := by
        match m, hm with
        | 0, _ => decide
        | 1, _ => decide
        | 2, _ => decide
        | 3, _ => decide
        | 4, _ => decide
      exact ⟨h1.1, by show rdN _ ≤ _; omega⟩
    · exact ⟨by decide, by decide⟩
  · exact ⟨by decide, by decide⟩
theorem decK_nn {l : List Int} (hb : Eng.Bytes l) (hl : l.length ≤ 1000) (k : Int) : msgNN (decK l k) := by
  have h1 := numA_ok hb 1 4 (by omega)
  have h2 := numA_ok hb 5 1 (by omega)
  have h3 := numA_ok hb 1 1 (by omega)
  have h4 := numA_ok hb 2 4 (by omega)
  have h5 := numA_ok hb 6 1 (by omega)
  have h6 := numA_ok hb 7 4 (by omega)
  have h7 := numA_ok hb 2 1 (by omega)
  unfold decK msgNN
  (repeat' split) <;> simp only [List.length_nil, List.length_drop] <;> omega
theorem mc_sl {H : Hp} {q n : Nat} {l : List Int} (a b c d e f g h i : Int) (hb : H.h q = some (l.map cell) ∧ n = l.length) : deep H depthD (.agg [.v (.int .i64 a), .v (.int .i64 b), .v (.int .i64 c), .v (.int .i64 d), .v (.int .i64 e), .v (.int .i64 f), .v (.int .i64 g), .v (.int .i64 h), .v (.int .i64 i), .sl q 1 0 n]) = some (.agg [.v (.int .i64 a), .v (.int .i64 b), .v (.int .i64 c), .v (.int .i64 d), .v (.int .i64 e), .v (.int .i64 f), .v (.int .i64 g), .v (.int .i64 h), .v (.int .i64 i), bytesL l]) := by
  obtain ⟨h1, rfl⟩ := hb
  have h2 := (gF_bytes (n := 9) h1 rfl).1
  exact deep_aggL (n := 11) (mapM_c rfl (mapM_c rfl (mapM_c rfl (mapM_c rfl (mapM_c rfl (mapM_c rfl (mapM_c rfl (mapM_c rfl (mapM_c rfl (mapM_c h2 mapM_n))))))))))
theorem mf_nil (a b c d e f g h i : Int) : ∀ H, call Try.prog cfg0 0 25 [.agg [.v (.int .i64 a), .v (.int .i64 b), .v (.int .i64 c), .v (.int .i64 d), .v (.int .i64 e), .v (.int .i64 f), .v (.int .i64 g), .v (.int .i64 h), .v (.int .i64 i), .v (.slice none 0 0)]] H = some (.v (.int .i64 (msgFault ⟨a, b, c, ⟨d, e, f, g⟩, h, ⟨i, []⟩⟩)), H) := fun H =>
  call_dz Try.func25 rfl ok_iMessageFault rfl (Dzs.cons (Dz.agg (n := 11) (Dzs.cons (Fz.int _ _ _).dz (Dzs.cons (Fz.int _ _ _).dz (Dzs.cons (Fz.int _ _ _).dz (Dzs.cons (Fz.int _ _ _).dz (Dzs.cons (Fz.int _ _ _).dz (Dzs.cons (Fz.int _ _ _).dz (Dzs.cons (Fz.int _ _ _).dz (Dzs.cons (Fz.int _ _ _).dz (Dzs.cons (Fz.int _ _ _).dz (Dzs.cons dz_nil Dzs.nil))))))))))) Dzs.nil) (p_iMessageFault ⟨a, b, c, ⟨d, e, f, g⟩, h, ⟨i, []⟩⟩) H
open Classical in
theorem mf_sl (a b c d e f g h i : Int) (l : List Int) : ∀ H q n, call Try.prog cfg0 0 25 [.agg [.v (.int .i64 a), .v (.int .i64 b), .v (.int .i64 c), .v (.int .i64 d), .v (.int .i64 e), .v (.int .i64 f), .v (.int .i64 g), .v (.int .i64 h), .v (.int .i64 i), .sl q 1 0 n]] H = if H.h q = some (l.map cell) ∧ n = l.length then some (.v (.int .i64 (msgFault ⟨a, b, c, ⟨d, e, f, g⟩, h, ⟨i, l⟩⟩)), H) else call' Try.prog cfg0 0 25 [.agg [.v (.int .i64 a), .v (.int .i64 b), .v (.int .i64 c), .v (.int .i64 d), .v (.int .i64 e), .v (.int .i64 f), .v (.int .i64 g), .v (.int .i64 h), .v (.int .i64 i), .sl q 1 0 n]] H := fun H q n =>
  call_if Try.func25 rfl ok_iMessageFault rfl (fun hC => mapM_c (mc_sl a b c d e f g h i hC) mapM_n) (p_iMessageFault ⟨a, b, c, ⟨d, e, f, g⟩, h, ⟨i, l⟩⟩)
theorem en_nil (a b c d e f g h i : Int) (hk : msgNN ⟨a, b, c, ⟨d, e, f, g⟩, h, ⟨i, []⟩⟩) : ∀ H, call Try.prog cfg0 0 37 [.agg [.v (.int .i64 a), .v (.int .i64 b), .v (.int .i64 c), .v (.int .i64 d), .v (.int .i64 e), .v (.int .i64 f), .v (.int .i64 g), .v (.int .i64 h), .v (.int .i64 i), .v (.slice none 0 0)]] H = some (bytesL (msgB ⟨a, b, c, ⟨d, e, f, g⟩, h, ⟨i, []⟩⟩), H) := fun H =>
  call_dz Try.func37 rfl ok_iMessage_encoded rfl (Dzs.cons (Dz.agg (n := 11) (Dzs.cons (Fz.int _ _ _).dz (Dzs.cons (Fz.int _ _ _).dz (Dzs.cons (Fz.int _ _ _).dz (Dzs.cons (Fz.int _ _ _).dz (Dzs.cons (Fz.int _ _ _).dz (Dzs.cons (Fz.int _ _ _).dz (Dzs.cons (Fz.int _ _ _).dz (Dzs.cons (Fz.int _ _ _).dz (Dzs.cons (Fz.int _ _ _).dz (Dzs.cons dz_nil Dzs.nil))))))))))) Dzs.nil) ((pq_iMessage_encoded ⟨a, b, c, ⟨d, e, f, g⟩, h, ⟨i, []⟩⟩ hk).1) H
open Classical in
theorem en_sl (a b c d e f g h i : Int) (l : List Int) (hk : msgNN ⟨a, b, c, ⟨d, e, f, g⟩, h, ⟨i, l⟩⟩) : ∀ H q n, call Try.prog cfg0 0 37 [.agg [.v (.int .i64 a), .v (.int .i64 b), .v (.int .i64 c), .v (.int .i64 d), .v (.int .i64 e), .v (.int .i64 f), .v (.int .i64 g), .v (.int .i64 h), .v (.int .i64 i), .sl q 1 0 n]] H = if H.h q = some (l.map cell) ∧ n = l.length then some (bytesL (msgB ⟨a, b, c, ⟨d, e, f, g⟩, h, ⟨i, l⟩⟩), H) else call' Try.prog cfg0 0 37 [.agg [.v (.int .i64 a), .v (.int .i64 b), .v (.int .i64 c), .v (.int .i64 d), .v (.int .i64 e), .v (.int .i64 f), .v (.int .i64 g), .v (.int .i64 h), .v (.int .i64 i), .sl q 1 0 n]] H := fun H q n =>
  call_if Try.func37 rfl ok_iMessage_encoded rfl (fun hC => mapM_c (mc_sl a b c d e f g h i hC) mapM_n) ((pq_iMessage_encoded ⟨a, b, c, ⟨d, e, f, g⟩, h, ⟨i, l⟩⟩ hk).1)
theorem ms_nil (a b c d e f g h i : Int) : ∀ H, call Try.prog cfg0 0 48 [.agg [.v (.int .i64 a), .v (.int .i64 b), .v (.int .i64 c), .v (.int .i64 d), .v (.int .i64 e), .v (.int .i64 f), .v (.int .i64 g), .v (.int .i64 h), .v (.int .i64 i), .v (.slice none 0 0)]] H = some (.v (.int .i64 (msgFault ⟨a, b, c, ⟨d, e, f, g⟩, h, ⟨i, []⟩⟩)), H) := fun H =>
  call_dz Try.func48 rfl ok_sMessageFault rfl (Dzs.cons (Dz.agg (n := 11) (Dzs.cons (Fz.int _ _ _).dz (Dzs.cons (Fz.int _ _ _).dz (Dzs.cons (Fz.int _ _ _).dz (Dzs.cons (Fz.int _ _ _).dz (Dzs.cons (Fz.int _ _ _).dz (Dzs.cons (Fz.int _ _ _).dz (Dzs.cons (Fz.int _ _ _).dz (Dzs.cons (Fz.int _ _ _).dz (Dzs.cons (Fz.int _ _ _).dz (Dzs.cons dz_nil Dzs.nil))))))))))) Dzs.nil) (p_sMessageFault ⟨a, b, c, ⟨d, e, f, g⟩, h, ⟨i, []⟩⟩) H
open Classical in
theorem ms_sl (a b c d e f g h i : Int) (l : List Int) : ∀ H q n, call Try.prog cfg0 0 48 [.agg [.v (.int .i64 a), .v (.int .i64 b), .v (.int .i64 c), .v (.int .i64 d), .v (.int .i64 e), .v (.int .i64 f), .v (.int .i64 g), .v (.int .i64 h), .v (.int .i64 i), .sl q 1 0 n]] H = if H.h q = some (l.map cell) ∧ n = l.length then some (.v (.int .i64 (msgFault ⟨a, b, c, ⟨d, e, f, g⟩, h, ⟨i, l⟩⟩)), H) else call' Try.prog cfg0 0 48 [.agg [.v (.int .i64 a), .v (.int .i64 b), .v (.int .i64 c), .v (.int .i64 d), .v (.int .i64 e), .v (.int .i64 f), .v (.int .i64 g), .v (.int .i64 h), .v (.int .i64 i), .sl q 1 0 n]] H := fun H q n =>
  call_if Try.func48 rfl ok_sMessageFault rfl (fun hC => mapM_c (mc_sl a b c d e f g h i hC) mapM_n) (p_sMessageFault ⟨a, b, c, ⟨d, e, f, g⟩, h, ⟨i, l⟩⟩)
theorem gO_msg (a b c d e f g h i : Int) {t x : AV} {H : Hp} (hx : GivesF 10 t x H) {y y' : Bool} (hy : y' = y) : GivesO (.tup [.agg [.v (.int .i64 a), .v (.int .i64 b), .v (.int .i64 c), .v (.int .i64 d), .v (.int .i64 e), .v (.int .i64 f), .v (.int .i64 g), .v (.int .i64 h), .v (.int .i64 i), t], .v (.bool y)]) (.tup [.agg [.v (.int .i64 a), .v (.int .i64 b), .v (.int .i64 c), .v (.int .i64 d), .v (.int .i64 e), .v (.int .i64 f), .v (.int .i64 g), .v (.int .i64 h), .v (.int .i64 i), x], .v (.bool y')]) H := by
  subst hy
  refine gF_O (gF_tup (n := 10) (gF_agg (n := 9) hx [.v (.int .i64 a), .v (.int .i64 b), .v (.int .i64 c), .v (.int .i64 d), .v (.int .i64 e), .v (.int .i64 f), .v (.int .i64 g), .v (.int .i64 h), .v (.int .i64 i)] ?_) (plain_bool _))
  intro z hz
  simp only [List.mem_cons, List.not_mem_nil, or_false] at hz
  rcases hz with rfl | rfl | rfl | rfl | rfl | rfl | rfl | rfl | rfl <;> exact ⟨_, rfl, plain_int _ _⟩
theorem ok_idecoded : fnOk Try.prog cfg0 30 Try.f30 = true := by kernel_rfl
theorem pq_idecoded (l : List Int) (hb : Eng.Bytes l) (hl : l.length ≤ 1000) : pure Try.prog cfg0 30 Try.f30 [bytesL l] = some (.tup [.agg [.v (.int .i64 (decM l).Kind), .v (.int .i64 (decM l).Seq), .v (.int .i64 (decM l).Node), .v (.int .i64 (decM l).Claim.Node), .v (.int .i64 (decM l).Claim.Inc), .v (.int .i64 (decM l).Claim.Status), .v (.int .i64 (decM l).Claim.Meta), .v (.int .i64 (decM l).Op), .v (.int .i64 (decM l).Key.Id), bytesL (decM l).Key.Bytes], .v (.bool (decB l))], true) ∧ owned Try.prog cfg0 30 Try.f30 [bytesL l] = some (.tup [.agg [.v (.int .i64 (decM l).Kind), .v (.int .i64 (decM l).Seq), .v (.int .i64 (decM l).Node), .v (.int .i64 (decM l).Claim.Node), .v (.int .i64 (decM l).Claim.Inc), .v (.int .i64 (decM l).Claim.Status), .v (.int .i64 (decM l).Claim.Meta), .v (.int .i64 (decM l).Op), .v (.int .i64 (decM l).Key.Id), bytesL (decM l).Key.Bytes], .v (.bool (decB l))]) := by
  refine both_wp (rs := [.cell 2 38, .tmp 3]) rfl rfl ?_
  have hp0 : ∀ b, cfg0.pol 30 b = (if b = 90 then 1 else 0) := fun b => rfl
  have hkn := decK_nn hb hl
  cases l with
  | nil =>
    repeat' (first | ((first | refine wSeqr (fun xx hx => ?_) | refine wSeqrF (fun xx hx => ?_) | refine wIf (fun xx hx => ?_) | refine wReg (fun xx hx => ?_) | refine wRegF (fun xx hx => ?_) | (refine wRet ?_; (try simp only [thenQ, blockQ]); (try (subst hQQ; (try simp only [thenQ, blockQ]))); refine ends_by (fun xx hx => ?_))); have hc := trivial; (repeat' (simp only [hc, Nat.reduceBEq, go_sem, Nat.reduceAdd, Nat.reduceMul, Nat.reduceSub, Nat.reduceEqDiff, Nat.reduceLT, Nat.reduceLeDiff, Int.reduceEq, Int.reduceLT, Int.reduceLE, reduceIte, aresults, aresult, hp0, List.length_nil] at hx; (try ((first | rw [guardL_if] at hx | rw [guardF_if] at hx); split at hx <;> rename_i hc)))); all_goals (subst hx; first | (refine ⟨_, rfl, fun ht => ?_, fun ht => ?_⟩ <;> (try simp only [Bool.not_eq_true', Bool.not_eq_false', Bool.and_eq_true, Bool.and_eq_false_iff, Bool.or_eq_true, Bool.or_eq_false_iff, decide_eq_true_eq, decide_eq_false_iff_not, beq_iff_eq, bne_iff_ne, Bool.not_true, Bool.not_false, Bool.true_eq_false, Bool.false_eq_true, ne_eq, Decidable.not_not, inB_t, inB_f] at ht)) | (refine ⟨_, rfl, ?_⟩; (try simp only [tupOf])))) | refine wSkip ?_ | (refine wExit ?_; simp only [thenQ, blockQ, reduceIte, Nat.reduceEqDiff]) | refine wSeq ?_ | refine wBlock ?_ | (subst hQQ; (try simp only [thenQ, blockQ, reduceIte, Nat.reduceEqDiff])))
    all_goals first
      | (exfalso; (try simp only [Bool.not_eq_true', Bool.not_eq_false', Bool.and_eq_true, Bool.and_eq_false_iff, Bool.or_eq_true, Bool.or_eq_false_iff, decide_eq_true_eq, decide_eq_false_iff_not, beq_iff_eq, bne_iff_ne, Bool.not_true, Bool.not_false, Bool.true_eq_false, Bool.false_eq_true, ne_eq, Decidable.not_not, inB_t, inB_f] at *); simp at *; done)
      | skip
    refine gO_msg _ _ _ _ _ _ _ _ _ (gF_nil 9 _) ?_
    simp [decB, decM, msgFault, msgForm]
  | cons k r =>
    have f14 := c_inumber (k :: r) 1 4 1 4 rfl rfl hb (by omega) (by omega) (by omega) (by omega)
    have f51 := c_inumber (k :: r) 5 1 5 1 rfl rfl hb (by omega) (by omega) (by omega) (by omega)
    have f11 := c_inumber (k :: r) 1 1 1 1 rfl rfl hb (by omega) (by omega) (by omega) (by omega)
    have f24 := c_inumber (k :: r) 2 4 2 4 rfl rfl hb (by omega) (by omega) (by omega) (by omega)
    have f61 := c_inumber (k :: r) 6 1 6 1 rfl rfl hb (by omega) (by omega) (by omega) (by omega)
    have f74 := c_inumber (k :: r) 7 4 7 4 rfl rfl hb (by omega) (by omega) (by omega) (by omega)
    have f21 := c_inumber (k :: r) 2 1 2 1 rfl rfl hb (by omega) (by omega) (by omega) (by omega)
    have hk8 := hb k (by simp)
    have wk : IntKind.wrap .i64 k = k := wrap_i64 (by omega) (by omega)
    have hkk := hkn k
    have fe := fun a ha => c_EqB a (k :: r) (show a.length ≤ 1048576 from ha)
    by_cases k1 : k = 1
    · subst k1
      have e : decM (1 :: r) = ⟨1, (readWord (1 :: r) 1 4).2, (readWord (1 :: r) 5 1).2, ⟨0, 0, 0, 0⟩, 0, ⟨0, []⟩⟩ := by simp [decM, decK, numA]
      have e2 : decK (1 :: r) 1 = ⟨1, (readWord (1 :: r) 1 4).2, (readWord (1 :: r) 5 1).2, ⟨0, 0, 0, 0⟩, 0, ⟨0, []⟩⟩ := e
      have eB : decB (1 :: r) = (decide (msgFault ⟨1, (readWord (1 :: r) 1 4).2, (readWord (1 :: r) 5 1).2, ⟨0, 0, 0, 0⟩, 0, ⟨0, []⟩⟩ = 0) && decide (msgB ⟨1, (readWord (1 :: r) 1 4).2, (readWord (1 :: r) 5 1).2, ⟨0, 0, 0, 0⟩, 0, ⟨0, []⟩⟩ = 1 :: r)) := by unfold decB; rw [e]
      rw [e, eB]
      rw [e2] at hkk
      have hql : (msgB ⟨1, (readWord (1 :: r) 1 4).2, (readWord (1 :: r) 5 1).2, ⟨0, 0, 0, 0⟩, 0, ⟨0, []⟩⟩).length ≤ 1048576 := Nat.le_trans msgB_len (by simp)
      repeat' (first | ((first | refine wSeqr (fun xx hx => ?_) | refine wSeqrF (fun xx hx => ?_) | refine wIf (fun xx hx => ?_) | refine wReg (fun xx hx => ?_) | refine wRegF (fun xx hx => ?_) | (refine wRet ?_; (try simp only [thenQ, blockQ]); (try (subst hQQ; (try simp only [thenQ, blockQ]))); refine ends_by (fun xx hx => ?_))); have hc := trivial; (repeat' (simp only [hc, Nat.reduceBEq, go_sem, Nat.reduceAdd, Nat.reduceMul, Nat.reduceSub, Nat.reduceEqDiff, Nat.reduceLT, Nat.reduceLeDiff, Int.reduceEq, Int.reduceLT, Int.reduceLE, reduceIte, aresults, aresult, hp0, f14, f51, f11, f24, f61, f74, f21, wk, aconv_int u5 u2, List.length_cons, Int.natCast_eq_zero, mf_nil, en_nil 1 ((readWord (1 :: r) 1 4).2) ((readWord (1 :: r) 5 1).2) 0 0 0 0 0 0 hkk, fe _ hql] at hx; (try ((first | rw [guardL_if] at hx | rw [guardF_if] at hx); split at hx <;> rename_i hc)))); all_goals (subst hx; first | (refine ⟨_, rfl, fun ht => ?_, fun ht => ?_⟩ <;> (try simp only [Bool.not_eq_true', Bool.not_eq_false', Bool.and_eq_true, Bool.and_eq_false_iff, Bool.or_eq_true, Bool.or_eq_false_iff, decide_eq_true_eq, decide_eq_false_iff_not, beq_iff_eq, bne_iff_ne, Bool.not_true, Bool.not_false, Bool.true_eq_false, Bool.false_eq_true, ne_eq, Decidable.not_not, inB_t, inB_f] at ht)) | (refine ⟨_, rfl, ?_⟩; (try simp only [tupOf])))) | refine wSkip ?_ | (refine wExit ?_; simp only [thenQ, blockQ, reduceIte, Nat.reduceEqDiff]) | refine wSeq ?_ | refine wBlock ?_ | (subst hQQ; (try simp only [thenQ, blockQ, reduceIte, Nat.reduceEqDiff])))
      all_goals first
        | (exfalso; (try simp only [Bool.not_eq_true', Bool.not_eq_false', Bool.and_eq_true, Bool.and_eq_false_iff, Bool.or_eq_true, Bool.or_eq_false_iff, decide_eq_true_eq, decide_eq_false_iff_not, beq_iff_eq, bne_iff_ne, Bool.not_true, Bool.not_false, Bool.true_eq_false, Bool.false_eq_true, ne_eq, Decidable.not_not, inB_t, inB_f] at *); omega)
        | skip
      all_goals exact gO_msg _ _ _ _ _ _ _ _ _ (gF_nil 9 _) (by simp_all)
    by_cases k3 : k = 3
    · subst k3
      have e : decM (3 :: r) = ⟨3, (readWord (3 :: r) 1 4).2, (readWord (3 :: r) 5 1).2, ⟨0, 0, 0, 0⟩, 0, ⟨0, []⟩⟩ := by simp [decM, decK, numA]
      have e2 : decK (3 :: r) 3 = ⟨3, (readWord (3 :: r) 1 4).2, (readWord (3 :: r) 5 1).2, ⟨0, 0, 0, 0⟩, 0, ⟨0, []⟩⟩ := e
      have eB : decB (3 :: r) = (decide (msgFault ⟨3, (readWord (3 :: r) 1 4).2, (readWord (3 :: r) 5 1).2, ⟨0, 0, 0, 0⟩, 0, ⟨0, []⟩⟩ = 0) && decide (msgB ⟨3, (readWord (3 :: r) 1 4).2, (readWord (3 :: r) 5 1).2, ⟨0, 0, 0, 0⟩, 0, ⟨0, []⟩⟩ = 3 :: r)) := by unfold decB; rw [e]
      rw [e, eB]
      rw [e2] at hkk
      have hql : (msgB ⟨3, (readWord (3 :: r) 1 4).2, (readWord (3 :: r) 5 1).2, ⟨0, 0, 0, 0⟩, 0, ⟨0, []⟩⟩).length ≤ 1048576 := Nat.le_trans msgB_len (by simp)
      repeat' (first | ((first | refine wSeqr (fun xx hx => ?_) | refine wSeqrF (fun xx hx => ?_) | refine wIf (fun xx hx => ?_) | refine wReg (fun xx hx => ?_) | refine wRegF (fun xx hx => ?_) | (refine wRet ?_; (try simp only [thenQ, blockQ]); (try (subst hQQ; (try simp only [thenQ, blockQ]))); refine ends_by (fun xx hx => ?_))); have hc := trivial; (repeat' (simp only [hc, Nat.reduceBEq, go_sem, Nat.reduceAdd, Nat.reduceMul, Nat.reduceSub, Nat.reduceEqDiff, Nat.reduceLT, Nat.reduceLeDiff, Int.reduceEq, Int.reduceLT, Int.reduceLE, reduceIte, aresults, aresult, hp0, f14, f51, f11, f24, f61, f74, f21, wk, aconv_int u5 u2, List.length_cons, Int.natCast_eq_zero, mf_nil, en_nil 3 ((readWord (3 :: r) 1 4).2) ((readWord (3 :: r) 5 1).2) 0 0 0 0 0 0 hkk, fe _ hql] at hx; (try ((first | rw [guardL_if] at hx | rw [guardF_if] at hx); split at hx <;> rename_i hc)))); all_goals (subst hx; first | (refine ⟨_, rfl, fun ht => ?_, fun ht => ?_⟩ <;> (try simp only [Bool.not_eq_true', Bool.not_eq_false', Bool.and_eq_true, Bool.and_eq_false_iff, Bool.or_eq_true, Bool.or_eq_false_iff, decide_eq_true_eq, decide_eq_false_iff_not, beq_iff_eq, bne_iff_ne, Bool.not_true, Bool.not_false, Bool.true_eq_false, Bool.false_eq_true, ne_eq, Decidable.not_not, inB_t, inB_f] at ht)) | (refine ⟨_, rfl, ?_⟩; (try simp only [tupOf])))) | refine wSkip ?_ | (refine wExit ?_; simp only [thenQ, blockQ, reduceIte, Nat.reduceEqDiff]) | refine wSeq ?_ | refine wBlock ?_ | (subst hQQ; (try simp only [thenQ, blockQ, reduceIte, Nat.reduceEqDiff])))
      all_goals first
        | (exfalso; (try simp only [Bool.not_eq_true', Bool.not_eq_false', Bool.and_eq_true, Bool.and_eq_false_iff, Bool.or_eq_true, Bool.or_eq_false_iff, decide_eq_true_eq, decide_eq_false_iff_not, beq_iff_eq, bne_iff_ne, Bool.not_true, Bool.not_false, Bool.true_eq_false, Bool.false_eq_true, ne_eq, Decidable.not_not, inB_t, inB_f] at *); omega)
        | skip
      all_goals exact gO_msg _ _ _ _ _ _ _ _ _ (gF_nil 9 _) (by simp_all)
    by_cases k2 : k = 2
    · subst k2
      have e : decM (2 :: r) = ⟨2, (readWord (2 :: r) 1 4).2, 0, ⟨0, 0, 0, 0⟩, 0, ⟨0, []⟩⟩ := by simp [decM, decK, numA]
      have e2 : decK (2 :: r) 2 = ⟨2, (readWord (2 :: r) 1 4).2, 0, ⟨0, 0, 0, 0⟩, 0, ⟨0, []⟩⟩ := e
      have eB : decB (2 :: r) = (decide (msgFault ⟨2, (readWord (2 :: r) 1 4).2, 0, ⟨0, 0, 0, 0⟩, 0, ⟨0, []⟩⟩ = 0) && decide (msgB ⟨2, (readWord (2 :: r) 1 4).2, 0, ⟨0, 0, 0, 0⟩, 0, ⟨0, []⟩⟩ = 2 :: r)) := by unfold decB; rw [e]
      rw [e, eB]
      rw [e2] at hkk
      have hql : (msgB ⟨2, (readWord (2 :: r) 1 4).2, 0, ⟨0, 0, 0, 0⟩, 0, ⟨0, []⟩⟩).length ≤ 1048576 := Nat.le_trans msgB_len (by simp)
      repeat' (first | ((first | refine wSeqr (fun xx hx => ?_) | refine wSeqrF (fun xx hx => ?_) | refine wIf (fun xx hx => ?_) | refine wReg (fun xx hx => ?_) | refine wRegF (fun xx hx => ?_) | (refine wRet ?_; (try simp only [thenQ, blockQ]); (try (subst hQQ; (try simp only [thenQ, blockQ]))); refine ends_by (fun xx hx => ?_))); have hc := trivial; (repeat' (simp only [hc, Nat.reduceBEq, go_sem, Nat.reduceAdd, Nat.reduceMul, Nat.reduceSub, Nat.reduceEqDiff, Nat.reduceLT, Nat.reduceLeDiff, Int.reduceEq, Int.reduceLT, Int.reduceLE, reduceIte, aresults, aresult, hp0, f14, f51, f11, f24, f61, f74, f21, wk, aconv_int u5 u2, List.length_cons, Int.natCast_eq_zero, mf_nil, en_nil 2 ((readWord (2 :: r) 1 4).2) 0 0 0 0 0 0 0 hkk, fe _ hql] at hx; (try ((first | rw [guardL_if] at hx | rw [guardF_if] at hx); split at hx <;> rename_i hc)))); all_goals (subst hx; first | (refine ⟨_, rfl, fun ht => ?_, fun ht => ?_⟩ <;> (try simp only [Bool.not_eq_true', Bool.not_eq_false', Bool.and_eq_true, Bool.and_eq_false_iff, Bool.or_eq_true, Bool.or_eq_false_iff, decide_eq_true_eq, decide_eq_false_iff_not, beq_iff_eq, bne_iff_ne, Bool.not_true, Bool.not_false, Bool.true_eq_false, Bool.false_eq_true, ne_eq, Decidable.not_not, inB_t, inB_f] at ht)) | (refine ⟨_, rfl, ?_⟩; (try simp only [tupOf])))) | refine wSkip ?_ | (refine wExit ?_; simp only [thenQ, blockQ, reduceIte, Nat.reduceEqDiff]) | refine wSeq ?_ | refine wBlock ?_ | (subst hQQ; (try simp only [thenQ, blockQ, reduceIte, Nat.reduceEqDiff])))
      all_goals first
        | (exfalso; (try simp only [Bool.not_eq_true', Bool.not_eq_false', Bool.and_eq_true, Bool.and_eq_false_iff, Bool.or_eq_true, Bool.or_eq_false_iff, decide_eq_true_eq, decide_eq_false_iff_not, beq_iff_eq, bne_iff_ne, Bool.not_true, Bool.not_false, Bool.true_eq_false, Bool.false_eq_true, ne_eq, Decidable.not_not, inB_t, inB_f] at *); omega)
        | skip
      all_goals exact gO_msg _ _ _ _ _ _ _ _ _ (gF_nil 9 _) (by simp_all)
    by_cases k4 : k = 4
    · subst k4
      have e : decM (4 :: r) = ⟨4, 0, 0, ⟨(readWord (4 :: r) 1 1).2, (readWord (4 :: r) 2 4).2, (readWord (4 :: r) 6 1).2, (readWord (4 :: r) 7 4).2⟩, 0, ⟨0, []⟩⟩ := by simp [decM, decK, numA]
      have e2 : decK (4 :: r) 4 = ⟨4, 0, 0, ⟨(readWord (4 :: r) 1 1).2, (readWord (4 :: r) 2 4).2, (readWord (4 :: r) 6 1).2, (readWord (4 :: r) 7 4).2⟩, 0, ⟨0, []⟩⟩ := e
      have eB : decB (4 :: r) = (decide (msgFault ⟨4, 0, 0, ⟨(readWord (4 :: r) 1 1).2, (readWord (4 :: r) 2 4).2, (readWord (4 :: r) 6 1).2, (readWord (4 :: r) 7 4).2⟩, 0, ⟨0, []⟩⟩ = 0) && decide (msgB ⟨4, 0, 0, ⟨(readWord (4 :: r) 1 1).2, (readWord (4 :: r) 2 4).2, (readWord (4 :: r) 6 1).2, (readWord (4 :: r) 7 4).2⟩, 0, ⟨0, []⟩⟩ = 4 :: r)) := by unfold decB; rw [e]
      rw [e, eB]
      rw [e2] at hkk
      have hql : (msgB ⟨4, 0, 0, ⟨(readWord (4 :: r) 1 1).2, (readWord (4 :: r) 2 4).2, (readWord (4 :: r) 6 1).2, (readWord (4 :: r) 7 4).2⟩, 0, ⟨0, []⟩⟩).length ≤ 1048576 := Nat.le_trans msgB_len (by simp)
      repeat' (first | ((first | refine wSeqr (fun xx hx => ?_) | refine wSeqrF (fun xx hx => ?_) | refine wIf (fun xx hx => ?_) | refine wReg (fun xx hx => ?_) | refine wRegF (fun xx hx => ?_) | (refine wRet ?_; (try simp only [thenQ, blockQ]); (try (subst hQQ; (try simp only [thenQ, blockQ]))); refine ends_by (fun xx hx => ?_))); have hc := trivial; (repeat' (simp only [hc, Nat.reduceBEq, go_sem, Nat.reduceAdd, Nat.reduceMul, Nat.reduceSub, Nat.reduceEqDiff, Nat.reduceLT, Nat.reduceLeDiff, Int.reduceEq, Int.reduceLT, Int.reduceLE, reduceIte, aresults, aresult, hp0, f14, f51, f11, f24, f61, f74, f21, wk, aconv_int u5 u2, List.length_cons, Int.natCast_eq_zero, mf_nil, en_nil 4 0 0 ((readWord (4 :: r) 1 1).2) ((readWord (4 :: r) 2 4).2) ((readWord (4 :: r) 6 1).2) ((readWord (4 :: r) 7 4).2) 0 0 hkk, fe _ hql] at hx; (try ((first | rw [guardL_if] at hx | rw [guardF_if] at hx); split at hx <;> rename_i hc)))); all_goals (subst hx; first | (refine ⟨_, rfl, fun ht => ?_, fun ht => ?_⟩ <;> (try simp only [Bool.not_eq_true', Bool.not_eq_false', Bool.and_eq_true, Bool.and_eq_false_iff, Bool.or_eq_true, Bool.or_eq_false_iff, decide_eq_true_eq, decide_eq_false_iff_not, beq_iff_eq, bne_iff_ne, Bool.not_true, Bool.not_false, Bool.true_eq_false, Bool.false_eq_true, ne_eq, Decidable.not_not, inB_t, inB_f] at ht)) | (refine ⟨_, rfl, ?_⟩; (try simp only [tupOf])))) | refine wSkip ?_ | (refine wExit ?_; simp only [thenQ, blockQ, reduceIte, Nat.reduceEqDiff]) | refine wSeq ?_ | refine wBlock ?_ | (subst hQQ; (try simp only [thenQ, blockQ, reduceIte, Nat.reduceEqDiff])))
      all_goals first
        | (exfalso; (try simp only [Bool.not_eq_true', Bool.not_eq_false', Bool.and_eq_true, Bool.and_eq_false_iff, Bool.or_eq_true, Bool.or_eq_false_iff, decide_eq_true_eq, decide_eq_false_iff_not, beq_iff_eq, bne_iff_ne, Bool.not_true, Bool.not_false, Bool.true_eq_false, Bool.false_eq_true, ne_eq, Decidable.not_not, inB_t, inB_f] at *); omega)
        | skip
      all_goals exact gO_msg _ _ _ _ _ _ _ _ _ (gF_nil 9 _) (by simp_all)
    by_cases k5 : k = 5
    · subst k5
      have hlr : r.length + 1 ≤ 1000 := hl
      by_cases h3 : 3 < r.length + 1
      · have h3' : (3 : Int) < ((r.length + 1 : Nat) : Int) := by omega
        have hne : r.drop 2 ≠ [] := fun e => by have := congrArg List.length e; simp at this; omega
        have fcl : ∀ H, call Try.prog cfg0 1 59 [bytesL (r.drop 2)] H = some (.sl H.g 1 0 (r.drop 2).length, H.new ((r.drop 2).map cell)) := fun H => (o_iClone (r.drop 2) hne (by simp; omega) H).trans (mat_bytes 10 _ hne H)
        have e : decM (5 :: r) = ⟨5, 0, 0, ⟨0, 0, 0, 0⟩, (readWord (5 :: r) 1 1).2, ⟨(readWord (5 :: r) 2 1).2, r.drop 2⟩⟩ := by simp [decM, decK, numA]
        have e2 : decK (5 :: r) 5 = ⟨5, 0, 0, ⟨0, 0, 0, 0⟩, (readWord (5 :: r) 1 1).2, ⟨(readWord (5 :: r) 2 1).2, r.drop 2⟩⟩ := e
        have eB : decB (5 :: r) = (decide (msgFault ⟨5, 0, 0, ⟨0, 0, 0, 0⟩, (readWord (5 :: r) 1 1).2, ⟨(readWord (5 :: r) 2 1).2, r.drop 2⟩⟩ = 0) && decide (msgB ⟨5, 0, 0, ⟨0, 0, 0, 0⟩, (readWord (5 :: r) 1 1).2, ⟨(readWord (5 :: r) 2 1).2, r.drop 2⟩⟩ = 5 :: r)) := by unfold decB; rw [e]
        rw [e, eB]
        rw [e2] at hkk
        have hql : (msgB ⟨5, 0, 0, ⟨0, 0, 0, 0⟩, (readWord (5 :: r) 1 1).2, ⟨(readWord (5 :: r) 2 1).2, r.drop 2⟩⟩).length ≤ 1048576 := Nat.le_trans msgB_len (by simp; omega)
        repeat' (first | ((first | refine wSeqr (fun xx hx => ?_) | refine wSeqrF (fun xx hx => ?_) | refine wIf (fun xx hx => ?_) | refine wReg (fun xx hx => ?_) | refine wRegF (fun xx hx => ?_) | (refine wRet ?_; (try simp only [thenQ, blockQ]); (try (subst hQQ; (try simp only [thenQ, blockQ]))); refine ends_by (fun xx hx => ?_))); have hc := trivial; (repeat' (simp only [hc, Nat.reduceBEq, go_sem, Nat.reduceAdd, Nat.reduceMul, Nat.reduceSub, Nat.reduceEqDiff, Nat.reduceLT, Nat.reduceLeDiff, Int.reduceEq, Int.reduceLT, Int.reduceLE, reduceIte, aresults, aresult, hp0, f14, f51, f11, f24, f61, f74, f21, wk, aconv_int u5 u2, List.length_cons, Int.natCast_eq_zero, show 3 ≤ r.length + 1 by omega, h3', fcl, mf_sl 5 0 0 0 0 0 0 ((readWord (5 :: r) 1 1).2) ((readWord (5 :: r) 2 1).2) (r.drop 2), en_sl 5 0 0 0 0 0 0 ((readWord (5 :: r) 1 1).2) ((readWord (5 :: r) 2 1).2) (r.drop 2) hkk, fe _ hql] at hx; (try ((first | rw [guardL_if] at hx | rw [guardF_if] at hx); split at hx <;> rename_i hc)))); all_goals (subst hx; first | (refine ⟨_, rfl, fun ht => ?_, fun ht => ?_⟩ <;> (try simp only [Bool.not_eq_true', Bool.not_eq_false', Bool.and_eq_true, Bool.and_eq_false_iff, Bool.or_eq_true, Bool.or_eq_false_iff, decide_eq_true_eq, decide_eq_false_iff_not, beq_iff_eq, bne_iff_ne, Bool.not_true, Bool.not_false, Bool.true_eq_false, Bool.false_eq_true, ne_eq, Decidable.not_not, inB_t, inB_f] at ht)) | (refine ⟨_, rfl, ?_⟩; (try simp only [tupOf])))) | refine wSkip ?_ | (refine wExit ?_; simp only [thenQ, blockQ, reduceIte, Nat.reduceEqDiff]) | refine wSeq ?_ | refine wBlock ?_ | (subst hQQ; (try simp only [thenQ, blockQ, reduceIte, Nat.reduceEqDiff])))
        all_goals first
          | (exfalso; (try simp only [Bool.not_eq_true', Bool.not_eq_false', Bool.and_eq_true, Bool.and_eq_false_iff, Bool.or_eq_true, Bool.or_eq_false_iff, decide_eq_true_eq, decide_eq_false_iff_not, beq_iff_eq, bne_iff_ne, Bool.not_true, Bool.not_false, Bool.true_eq_false, Bool.false_eq_true, ne_eq, Decidable.not_not, inB_t, inB_f] at *); omega)
          | skip
        all_goals exact gO_msg _ _ _ _ _ _ _ _ _ (gF_bytes (n := 8) (l := r.drop 2) (by simp [Hp.set_h, Hp.new_h, nil_g]) rfl) (by simp_all)
      · have h3' : ¬ (3 : Int) < ((r.length + 1 : Nat) : Int) := by omega
        have h2e : r.drop 2 = [] := List.drop_eq_nil_of_le (by omega)
        have e : decM (5 :: r) = ⟨5, 0, 0, ⟨0, 0, 0, 0⟩, (readWord (5 :: r) 1 1).2, ⟨(readWord (5 :: r) 2 1).2, []⟩⟩ := by simp [decM, decK, numA, h2e]
        have e2 : decK (5 :: r) 5 = ⟨5, 0, 0, ⟨0, 0, 0, 0⟩, (readWord (5 :: r) 1 1).2, ⟨(readWord (5 :: r) 2 1).2, []⟩⟩ := e
        have eB : decB (5 :: r) = (decide (msgFault ⟨5, 0, 0, ⟨0, 0, 0, 0⟩, (readWord (5 :: r) 1 1).2, ⟨(readWord (5 :: r) 2 1).2, []⟩⟩ = 0) && decide (msgB ⟨5, 0, 0, ⟨0, 0, 0, 0⟩, (readWord (5 :: r) 1 1).2, ⟨(readWord (5 :: r) 2 1).2, []⟩⟩ = 5 :: r)) := by unfold decB; rw [e]
        rw [e, eB]
        rw [e2] at hkk
        have hql : (msgB ⟨5, 0, 0, ⟨0, 0, 0, 0⟩, (readWord (5 :: r) 1 1).2, ⟨(readWord (5 :: r) 2 1).2, []⟩⟩).length ≤ 1048576 := Nat.le_trans msgB_len (by simp)
        repeat' (first | ((first | refine wSeqr (fun xx hx => ?_) | refine wSeqrF (fun xx hx => ?_) | refine wIf (fun xx hx => ?_) | refine wReg (fun xx hx => ?_) | refine wRegF (fun xx hx => ?_) | (refine wRet ?_; (try simp only [thenQ, blockQ]); (try (subst hQQ; (try simp only [thenQ, blockQ]))); refine ends_by (fun xx hx => ?_))); have hc := trivial; (repeat' (simp only [hc, Nat.reduceBEq, go_sem, Nat.reduceAdd, Nat.reduceMul, Nat.reduceSub, Nat.reduceEqDiff, Nat.reduceLT, Nat.reduceLeDiff, Int.reduceEq, Int.reduceLT, Int.reduceLE, reduceIte, aresults, aresult, hp0, f14, f51, f11, f24, f61, f74, f21, wk, aconv_int u5 u2, List.length_cons, Int.natCast_eq_zero, h3', mf_nil, en_nil 5 0 0 0 0 0 0 ((readWord (5 :: r) 1 1).2) ((readWord (5 :: r) 2 1).2) hkk, fe _ hql] at hx; (try ((first | rw [guardL_if] at hx | rw [guardF_if] at hx); split at hx <;> rename_i hc)))); all_goals (subst hx; first | (refine ⟨_, rfl, fun ht => ?_, fun ht => ?_⟩ <;> (try simp only [Bool.not_eq_true', Bool.not_eq_false', Bool.and_eq_true, Bool.and_eq_false_iff, Bool.or_eq_true, Bool.or_eq_false_iff, decide_eq_true_eq, decide_eq_false_iff_not, beq_iff_eq, bne_iff_ne, Bool.not_true, Bool.not_false, Bool.true_eq_false, Bool.false_eq_true, ne_eq, Decidable.not_not, inB_t, inB_f] at ht)) | (refine ⟨_, rfl, ?_⟩; (try simp only [tupOf])))) | refine wSkip ?_ | (refine wExit ?_; simp only [thenQ, blockQ, reduceIte, Nat.reduceEqDiff]) | refine wSeq ?_ | refine wBlock ?_ | (subst hQQ; (try simp only [thenQ, blockQ, reduceIte, Nat.reduceEqDiff])))
        all_goals first
          | (exfalso; (try simp only [Bool.not_eq_true', Bool.not_eq_false', Bool.and_eq_true, Bool.and_eq_false_iff, Bool.or_eq_true, Bool.or_eq_false_iff, decide_eq_true_eq, decide_eq_false_iff_not, beq_iff_eq, bne_iff_ne, Bool.not_true, Bool.not_false, Bool.true_eq_false, Bool.false_eq_true, ne_eq, Decidable.not_not, inB_t, inB_f] at *); omega)
          | skip
        all_goals exact gO_msg _ _ _ _ _ _ _ _ _ (gF_nil 9 _) (by simp_all)
    have e : decM (k :: r) = ⟨k, 0, 0, ⟨0, 0, 0, 0⟩, 0, ⟨0, []⟩⟩ := by simp [decM, decK, numA, k1, k3, k2, k4, k5]
    have e2 : decK (k :: r) k = ⟨k, 0, 0, ⟨0, 0, 0, 0⟩, 0, ⟨0, []⟩⟩ := e
    have eB : decB (k :: r) = (decide (msgFault ⟨k, 0, 0, ⟨0, 0, 0, 0⟩, 0, ⟨0, []⟩⟩ = 0) && decide (msgB ⟨k, 0, 0, ⟨0, 0, 0, 0⟩, 0, ⟨0, []⟩⟩ = k :: r)) := by unfold decB; rw [e]
    rw [e, eB]
    rw [e2] at hkk
    have hql : (msgB ⟨k, 0, 0, ⟨0, 0, 0, 0⟩, 0, ⟨0, []⟩⟩).length ≤ 1048576 := Nat.le_trans msgB_len (by simp)
    repeat' (first | ((first | refine wSeqr (fun xx hx => ?_) | refine wSeqrF (fun xx hx => ?_) | refine wIf (fun xx hx => ?_) | refine wReg (fun xx hx => ?_) | refine wRegF (fun xx hx => ?_) | (refine wRet ?_; (try simp only [thenQ, blockQ]); (try (subst hQQ; (try simp only [thenQ, blockQ]))); refine ends_by (fun xx hx => ?_))); have hc := trivial; (repeat' (simp only [hc, Nat.reduceBEq, go_sem, Nat.reduceAdd, Nat.reduceMul, Nat.reduceSub, Nat.reduceEqDiff, Nat.reduceLT, Nat.reduceLeDiff, Int.reduceEq, Int.reduceLT, Int.reduceLE, reduceIte, aresults, aresult, hp0, f14, f51, f11, f24, f61, f74, f21, wk, aconv_int u5 u2, List.length_cons, Int.natCast_eq_zero, k1, k3, k2, k4, k5, mf_nil, en_nil k 0 0 0 0 0 0 0 0 hkk, fe _ hql] at hx; (try ((first | rw [guardL_if] at hx | rw [guardF_if] at hx); split at hx <;> rename_i hc)))); all_goals (subst hx; first | (refine ⟨_, rfl, fun ht => ?_, fun ht => ?_⟩ <;> (try simp only [Bool.not_eq_true', Bool.not_eq_false', Bool.and_eq_true, Bool.and_eq_false_iff, Bool.or_eq_true, Bool.or_eq_false_iff, decide_eq_true_eq, decide_eq_false_iff_not, beq_iff_eq, bne_iff_ne, Bool.not_true, Bool.not_false, Bool.true_eq_false, Bool.false_eq_true, ne_eq, Decidable.not_not, inB_t, inB_f] at ht)) | (refine ⟨_, rfl, ?_⟩; (try simp only [tupOf])))) | refine wSkip ?_ | (refine wExit ?_; simp only [thenQ, blockQ, reduceIte, Nat.reduceEqDiff]) | refine wSeq ?_ | refine wBlock ?_ | (subst hQQ; (try simp only [thenQ, blockQ, reduceIte, Nat.reduceEqDiff])))
    all_goals first
      | (exfalso; (try simp only [Bool.not_eq_true', Bool.not_eq_false', Bool.and_eq_true, Bool.and_eq_false_iff, Bool.or_eq_true, Bool.or_eq_false_iff, decide_eq_true_eq, decide_eq_false_iff_not, beq_iff_eq, bne_iff_ne, Bool.not_true, Bool.not_false, Bool.true_eq_false, Bool.false_eq_true, ne_eq, Decidable.not_not, inB_t, inB_f] at *); omega)
      | skip
    all_goals exact gO_msg _ _ _ _ _ _ _ _ _ (gF_nil 9 _) (by simp_all)
theorem p_idecoded (l : List Int) (hb : Eng.Bytes l) (hl : l.length ≤ 1000) : pure Try.prog cfg0 30 Try.f30 [bytesL l] = some (.tup [.agg [.v (.int .i64 (decM l).Kind), .v (.int .i64 (decM l).Seq), .v (.int .i64 (decM l).Node), .v (.int .i64 (decM l).Claim.Node), .v (.int .i64 (decM l).Claim.Inc), .v (.int .i64 (decM l).Claim.Status), .v (.int .i64 (decM l).Claim.Meta), .v (.int .i64 (decM l).Op), .v (.int .i64 (decM l).Key.Id), bytesL (decM l).Key.Bytes], .v (.bool (decB l))], true) := (pq_idecoded l hb hl).1
theorem c_idecoded (l : List Int) (hb : Eng.Bytes l) (hl : l.length ≤ 1000) : ∀ H, call Try.prog cfg0 0 30 [bytesL l] H = some (.tup [.agg [.v (.int .i64 (decM l).Kind), .v (.int .i64 (decM l).Seq), .v (.int .i64 (decM l).Node), .v (.int .i64 (decM l).Claim.Node), .v (.int .i64 (decM l).Claim.Inc), .v (.int .i64 (decM l).Claim.Status), .v (.int .i64 (decM l).Claim.Meta), .v (.int .i64 (decM l).Op), .v (.int .i64 (decM l).Key.Id), bytesL (decM l).Key.Bytes], .v (.bool (decB l))], H) :=
  call_fz Try.func30 rfl ok_idecoded rfl (by simp only [fz_cons, fz_nil, go_sem, and_self]) (pq_idecoded l hb hl).1
theorem o_idecoded (l : List Int) (hb : Eng.Bytes l) (hl : l.length ≤ 1000) : ∀ H, call Try.prog cfg0 1 30 [bytesL l] H = mat depthD (.tup [.agg [.v (.int .i64 (decM l).Kind), .v (.int .i64 (decM l).Seq), .v (.int .i64 (decM l).Node), .v (.int .i64 (decM l).Claim.Node), .v (.int .i64 (decM l).Claim.Inc), .v (.int .i64 (decM l).Claim.Status), .v (.int .i64 (decM l).Claim.Meta), .v (.int .i64 (decM l).Op), .v (.int .i64 (decM l).Key.Id), bytesL (decM l).Key.Bytes], .v (.bool (decB l))]) H := fun H =>
  call_ofO Try.func30 rfl ok_idecoded rfl (mapM_self fun x hx => ((show ∀ x ∈ ([bytesL l] : List AV), Fz depthD x by simp only [fz_cons, fz_nil, go_sem, and_self]) x hx).1 H) (pq_idecoded l hb hl).2

/-- Has it as many bytes as its kind needs? -/
def lenOk (l : List Int) : Bool := match l with
  | [] => false
  | k :: r => (decide (k = 1 ∨ k = 3) && decide (r.length = 5)) || (decide (k = 2) && decide (r.length = 4)) || (decide (k = 4) && decide (r.length = 10)) || (decide (k = 5) && decide (2 ≤ r.length))
def zeroM : MessageM := ⟨0, 0, 0, ⟨0, 0, 0, 0⟩, 0, ⟨0, []⟩⟩
def decS (l : List Int) : MessageM := if lenOk l = true then decM l else zeroM
def decSB (l : List Int) : Bool := lenOk l && decide (msgFault (decM l) = 0)
theorem rd4 {a b c d : Int} (ha : 0 ≤ a ∧ a ≤ 255) (hb : 0 ≤ b ∧ b ≤ 255) (hc : 0 ≤ c ∧ c ≤ 255) (hd : 0 ≤ d ∧ d ≤ 255) : 0 ≤ rdN [a, b, c, d] ∧ rdN [a, b, c, d] < 4294967296 := by
  simp only [rdN, List.foldl]; omega
theorem rd1 (a : Int) : rdN [a] = a := by simp [rdN]
theorem word4 {a b c d : Int} (ha : 0 ≤ a ∧ a ≤ 255) (hb : 0 ≤ b ∧ b ≤ 255) (hc : 0 ≤ c ∧ c ≤ 255) (hd : 0 ≤ d ∧ d ≤ 255) : wordL (rdN [a, b, c, d]) 4 = [a, b, c, d] := by
  simp only [wordL_succ, wordL_zero, rdN, List.foldl, Int.reducePow]
  simp only [List.cons.injEq, and_true]
  omega
theorem num4 {l : List Int} {n a b c d : Int} {p : Nat} (h : (l.drop p).take 4 = [a, b, c, d]) (ha : 0 ≤ a ∧ a ≤ 255) (hb : 0 ≤ b ∧ b ≤ 255) (hc : 0 ≤ c ∧ c ≤ 255) (hd : 0 ≤ d ∧ d ≤ 255) : numA l p 4 = rdN [a, b, c, d] := by
  have hl : p + 4 ≤ l.length := by have := congrArg List.length h; simp at this; omega
  have := rd4 ha hb hc hd
  unfold numA readWord
  rw [if_pos hl, h, if_pos (by omega)]
theorem num1 {l : List Int} {a : Int} {p : Nat} (h : (l.drop p).take 1 = [a]) (ha : 0 ≤ a ∧ a ≤ 255) : numA l p 1 = a := by
  have hl : p + 1 ≤ l.length := by have := congrArg List.length h; simp at this; omega
  unfold numA readWord
  rw [if_pos hl, h, rd1, if_pos (by omega)]
theorem mod8 {a : Int} (ha : 0 ≤ a ∧ a ≤ 255) : a % 256 = a := by omega
theorem list5 {r : List Int} (h : r.length = 5) : ∃ a b c d e, r = [a, b, c, d, e] := by
  match r, h with
  | [a, b, c, d, e], _ => exact ⟨a, b, c, d, e, rfl⟩
theorem list4 {r : List Int} (h : r.length = 4) : ∃ a b c d, r = [a, b, c, d] := by
  match r, h with
  | [a, b, c, d], _ => exact ⟨a, b, c, d, rfl⟩
theorem list10 {r : List Int} (h : r.length = 10) : ∃ a b c d e f g i j k, r = [a, b, c, d, e, f, g, i, j, k] := by
  match r, h with
  | [a, b, c, d, e, f, g, i, j, k], _ => exact ⟨a, b, c, d, e, f, g, i, j, k, rfl⟩
theorem list2 {r : List Int} (h : 2 ≤ r.length) : ∃ a b t, r = a :: b :: t := by
  match r, h with
  | a :: b :: t, _ => exact ⟨a, b, t, rfl⟩
/-- Bytes are a message's where there are as many of them as it needs. -/
theorem decB_eq {l : List Int} (hb : Eng.Bytes l) : decB l = decSB l := by
  unfold decB decSB
  cases hm : decide (msgFault (decM l) = 0) with
  | false => simp
  | true =>
    have hm0 : msgFault (decM l) = 0 := of_decide_eq_true hm
    simp only [Bool.true_and, Bool.and_true]
    apply bool_eq
    simp only [decide_eq_true_eq]
    cases l with
    | nil => simp [decM, msgFault, msgForm] at hm0
    | cons k r =>
      have hk := hb k (by simp)
      by_cases k1 : k = 1 ∨ k = 3
      · have e : msgB (decM (k :: r)) = [k % 256] ++ (wordL (numA (k :: r) 1 4) 4 ++ (wordL (numA (k :: r) 5 1) 1 ++ [])) := by
          simp only [msgB, msgP, decM, decK, if_pos k1, List.flatten_cons, List.flatten_nil]
        have k2 : k ≠ 2 := by omega
        have k4 : k ≠ 4 := by omega
        have k5 : k ≠ 5 := by omega
        rw [e]
        simp only [lenOk, decide_eq_true k1, decide_eq_false k2, decide_eq_false k4, decide_eq_false k5, Bool.true_and, Bool.false_and, Bool.or_false, decide_eq_true_eq]
        constructor
        · intro h; have := congrArg List.length h; simp [wordL_len] at this; omega
        · intro h
          obtain ⟨a, b, c, d, f, rfl⟩ := list5 h
          have ha := hb a (by simp)
          have hb' := hb b (by simp)
          have hc := hb c (by simp)
          have hd := hb d (by simp)
          have hf := hb f (by simp)
          rw [num4 (a := a) (b := b) (c := c) (d := d) (n := 0) rfl ha hb' hc hd, num1 (a := f) rfl hf, word4 ha hb' hc hd, wordL_1, mod8 hk, mod8 hf]
          rfl
      · by_cases k2 : k = 2
        · subst k2
          have e : msgB (decM (2 :: r)) = [2] ++ (wordL (numA (2 :: r) 1 4) 4 ++ []) := by
            simp [msgB, msgP, decM, decK]
          rw [e]
          simp only [lenOk]
          constructor
          · intro h; have := congrArg List.length h; simp [wordL_len] at this; simp; omega
          · intro h
            have h : r.length = 4 := by simpa using h
            obtain ⟨a, b, c, d, rfl⟩ := list4 h
            have ha := hb a (by simp)
            have hb' := hb b (by simp)
            have hc := hb c (by simp)
            have hd := hb d (by simp)
            rw [num4 (a := a) (b := b) (c := c) (d := d) (n := 0) rfl ha hb' hc hd, word4 ha hb' hc hd]
            rfl
        · by_cases k4 : k = 4
          · subst k4
            have e : msgB (decM (4 :: r)) = [4] ++ (wordL (numA (4 :: r) 1 1) 1 ++ (wordL (numA (4 :: r) 2 4) 4 ++ (wordL (numA (4 :: r) 6 1) 1 ++ (wordL (numA (4 :: r) 7 4) 4 ++ [])))) := by
              simp [msgB, msgP, decM, decK]
            rw [e]
            simp only [lenOk]
            constructor
            · intro h; have := congrArg List.length h; simp [wordL_len] at this; simp; omega
            · intro h
              have h : r.length = 10 := by simpa using h
              obtain ⟨a, b, c, d, f, g, i, j, m, n, rfl⟩ := list10 h
              have ha := hb a (by simp)
              have hb' := hb b (by simp)
              have hc := hb c (by simp)
              have hd := hb d (by simp)
              have hf := hb f (by simp)
              have hg := hb g (by simp)
              have hi := hb i (by simp)
              have hj := hb j (by simp)
              have hm' := hb m (by simp)
              have hn := hb n (by simp)
              rw [num1 (a := a) rfl ha, num4 (a := b) (b := c) (c := d) (d := f) (n := 0) rfl hb' hc hd hf, num1 (a := g) rfl hg, num4 (a := i) (b := j) (c := m) (d := n) (n := 0) rfl hi hj hm' hn, word4 hb' hc hd hf, word4 hi hj hm' hn, wordL_1, wordL_1, mod8 ha, mod8 hg]
              rfl
          · by_cases k5 : k = 5
            · subst k5
              have e : msgB (decM (5 :: r)) = [5] ++ (wordL (numA (5 :: r) 1 1) 1 ++ (wordL (numA (5 :: r) 2 1) 1 ++ (r.drop 2 ++ []))) := by
                simp [msgB, msgP, decM, decK]
              rw [e]
              simp only [lenOk]
              constructor
              · intro h; have := congrArg List.length h; simp [wordL_len] at this; simp; omega
              · intro h
                have h : 2 ≤ r.length := by simpa using h
                obtain ⟨a, b, t, rfl⟩ := list2 h
                have ha := hb a (by simp)
                have hb' := hb b (by simp)
                rw [num1 (a := a) rfl ha, num1 (a := b) rfl hb', wordL_1, wordL_1, mod8 ha, mod8 hb']
                simp
            · exfalso
              simp [decM, decK, k1, k2, k4, k5, msgFault, msgForm] at hm0
theorem decB_dec {l : List Int} (hb : Eng.Bytes l) (h : decB l = true) : decS l = decM l := by
  rw [decB_eq hb] at h
  simp only [decSB, Bool.and_eq_true] at h
  exact if_pos h.1
end
end Go.Proofs.Ytmpkcilehideiaa
