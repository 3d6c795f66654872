/- Contracts: heads of letters. -/
import Derived.Test.YtmobkpfalcfepaaK9
import Derived.Test.YtmobkpfalcfepaaC1
namespace Go.Proofs.Ytmobkpfalcfepaa
open Go Go.RowKit Go.Proofs.Ytmobkpfalcfepaa.Eng
set_option linter.unusedSimpArgs false
set_option linter.unusedVariables false
set_option maxRecDepth 100000
noncomputable section
theorem foldl_rd : ∀ (r : List Int) (n : Int), r.foldl (fun n z => n * 256 + z) n = n * 256 ^ r.length + r.foldl (fun n z => n * 256 + z) 0 := by
  intro r
  induction r with
  | nil => intro n; simp
  | cons a r ih =>
    intro n
    simp only [List.foldl_cons, List.length_cons]
    rw [ih (n * 256 + a), ih (0 * 256 + a), Int.pow_succ, Int.add_mul, Int.mul_assoc, Int.mul_comm 256]
    simp only [Int.zero_mul, Int.zero_add]
    omega
theorem rdN_cons (z : Int) (r : List Int) : rdN (z :: r) = z * 256 ^ r.length + rdN r := by
  unfold rdN
  simp only [List.foldl_cons, Int.zero_mul, Int.zero_add]
  exact foldl_rd r z
def headOk (l : LetterM) : Bool := inB l.Key 1 255 && inB l.Sender 0 15 && inB l.Counter 0 1000000000
def letterFault (l : LetterM) : Int := if headOk l = true then (if 300 < l.Text.length then 2 else 0) else 3
theorem ok_iLetterFault : fnOk Try.prog cfg0 186 Try.f186 = true := by kernel_rfl
theorem p_iLetterFault (l : LetterM) : pure Try.prog cfg0 186 Try.f186 [.agg [.v (.int .i64 l.Key), .v (.int .i64 l.Sender), .v (.int .i64 l.Counter), bytesL l.Text]] = some (.v (.int .i64 (letterFault l)), true) := by
  refine pure_wp (rs := [.tmp 2]) rfl rfl ?_
  repeat' (first | ((first | refine wSeqr (fun xx hx => ?_) | refine wIf (fun xx hx => ?_) | refine wReg (fun xx hx => ?_) | (refine wRet ?_; (try simp only [thenQ, blockQ]); refine ends_by (fun xx hx => ?_))); have hc := trivial; (repeat' (simp only [hc, go_sem, Nat.reduceAdd, Nat.reduceMul, Nat.reduceSub, Nat.reduceEqDiff, Nat.reduceLT, Nat.reduceLeDiff, Int.reduceEq, Int.reduceLT, Int.reduceLE, reduceIte, aresults, aresult, hp0, c_iisKeyId, c_iin] at hx; (try (rw [guardL_if] at hx; split at hx <;> rename_i hc)))); all_goals (subst hx; first | (refine ⟨_, rfl, fun ht => ?_, fun ht => ?_⟩ <;> (try simp only [Bool.not_eq_true', Bool.not_eq_false', Bool.and_eq_true, Bool.and_eq_false_iff, Bool.or_eq_true, Bool.or_eq_false_iff, decide_eq_true_eq, decide_eq_false_iff_not, beq_iff_eq, bne_iff_ne, Bool.not_true, Bool.not_false, Bool.true_eq_false, Bool.false_eq_true, ne_eq, Decidable.not_not, inB_t, inB_f] at ht)) | (refine ⟨_, rfl, ?_⟩; (try simp only [tupOf])))) | refine wSkip ?_ | (refine wExit ?_; simp only [thenQ, blockQ, reduceIte, Nat.reduceEqDiff]) | refine wSeq ?_ | refine wBlock ?_)
  all_goals (refine gives_intv ?_; unfold letterFault headOk; (try simp only [Bool.not_eq_true', Bool.not_eq_false', Bool.and_eq_true, Bool.and_eq_false_iff, Bool.or_eq_true, Bool.or_eq_false_iff, decide_eq_true_eq, decide_eq_false_iff_not, beq_iff_eq, bne_iff_ne, Bool.not_true, Bool.not_false, Bool.true_eq_false, Bool.false_eq_true, ne_eq, Decidable.not_not, inB_t, inB_f] at *); (repeat' split) <;> (try simp only [Bool.not_eq_true', Bool.not_eq_false', Bool.and_eq_true, Bool.and_eq_false_iff, Bool.or_eq_true, Bool.or_eq_false_iff, decide_eq_true_eq, decide_eq_false_iff_not, beq_iff_eq, bne_iff_ne, Bool.not_true, Bool.not_false, Bool.true_eq_false, Bool.false_eq_true, ne_eq, Decidable.not_not, inB_t, inB_f] at *) <;> omega)
theorem c_iLetterFault (l : LetterM) : ∀ H, call Try.prog cfg0 0 186 [.agg [.v (.int .i64 l.Key), .v (.int .i64 l.Sender), .v (.int .i64 l.Counter), bytesL l.Text]] H = some (.v (.int .i64 (letterFault l)), H) :=
  call_fz Try.func186 rfl ok_iLetterFault rfl (by simp only [fz_cons, fz_nil, go_sem, and_self]) (p_iLetterFault l)

theorem ok_sl5Head : fnOk Try.prog cfg0 184 Try.f184 = true := by kernel_rfl
theorem p_sl5Head (l : LetterM) : pure Try.prog cfg0 184 Try.f184 [.fp [.v (.int .i64 l.Key), .v (.int .i64 l.Sender), .v (.int .i64 l.Counter), bytesL l.Text] 0] = some (.v (.bool (headOk l)), true) := by
  refine pure_wp (rs := [.tmp 2]) rfl rfl ?_
  repeat' (first | ((first | refine wSeqr (fun xx hx => ?_) | refine wIf (fun xx hx => ?_) | refine wReg (fun xx hx => ?_) | (refine wRet ?_; (try simp only [thenQ, blockQ]); refine ends_by (fun xx hx => ?_))); have hc := trivial; (repeat' (simp only [hc, go_sem, Nat.reduceAdd, Nat.reduceMul, Nat.reduceSub, Nat.reduceEqDiff, Nat.reduceLT, Nat.reduceLeDiff, Int.reduceEq, Int.reduceLT, Int.reduceLE, reduceIte, aresults, aresult, hp0, c_sl1In] at hx; (try (rw [guardL_if] at hx; split at hx <;> rename_i hc)))); all_goals (subst hx; first | (refine ⟨_, rfl, fun ht => ?_, fun ht => ?_⟩ <;> (try simp only [Bool.not_eq_true', Bool.not_eq_false', Bool.and_eq_true, Bool.and_eq_false_iff, Bool.or_eq_true, Bool.or_eq_false_iff, decide_eq_true_eq, decide_eq_false_iff_not, beq_iff_eq, bne_iff_ne, Bool.not_true, Bool.not_false, Bool.true_eq_false, Bool.false_eq_true, ne_eq, Decidable.not_not, inB_t, inB_f] at ht)) | (refine ⟨_, rfl, ?_⟩; (try simp only [tupOf])))) | refine wSkip ?_ | (refine wExit ?_; simp only [thenQ, blockQ, reduceIte, Nat.reduceEqDiff]) | refine wSeq ?_ | refine wBlock ?_)
  all_goals (refine gives_boolv ?_; simp_all [headOk])
theorem c_sl5Head (l : LetterM) : ∀ H, call Try.prog cfg0 0 184 [.fp [.v (.int .i64 l.Key), .v (.int .i64 l.Sender), .v (.int .i64 l.Counter), bytesL l.Text] 0] H = some (.v (.bool (headOk l)), H) :=
  call_fz Try.func184 rfl ok_sl5Head rfl (by simp only [fz_cons, fz_nil, go_sem, and_self]) (p_sl5Head l)
open Classical in
theorem cp_sl5Head (l : LetterM) : ∀ H bl, call Try.prog cfg0 0 184 [.ptr bl 0] H = if H.h bl = some [.v (.int .i64 l.Key), .v (.int .i64 l.Sender), .v (.int .i64 l.Counter), bytesL l.Text] then some (.v (.bool (headOk l)), H) else call' Try.prog cfg0 0 184 [.ptr bl 0] H :=
  fun H bl => by
    exact call_if Try.func184 rfl ok_sl5Head rfl (fun hC => mapM_c (deep_ptr hC (fzE_Letter 9 l)) (mapM_n)) (p_sl5Head l)

theorem deep_ptrD {n : Nat} {H : Hp} {b o : Nat} {cs ds : List AV} (hb : H.h b = some cs) (h : cs.mapM (deep H n) = some ds) : deep H (n + 1) (.ptr b o) = some (.fp ds o) := by
  simp only [deep, hb, Option.bind_some, h]; rfl
theorem dz_nil {n : Nat} : Dz (n + 1) (.v (.slice none 0 0)) (bytesL []) := ⟨fun _ => rfl, rfl⟩
open Classical in
theorem cpn_sl5Head (a b c : Int) : ∀ H q, call Try.prog cfg0 0 184 [.ptr q 0] H = if H.h q = some [.v (.int .i64 a), .v (.int .i64 b), .v (.int .i64 c), .v (.slice none 0 0)] then some (.v (.bool (headOk ⟨a, b, c, []⟩)), H) else call' Try.prog cfg0 0 184 [.ptr q 0] H := by
  intro H q
  exact call_if Try.func184 rfl ok_sl5Head rfl (fun hC => mapM_c (deep_ptrD (n := 11) hC (mapM_c rfl (mapM_c rfl (mapM_c rfl (mapM_c (dz_nil.1 H) mapM_n))))) mapM_n) (p_sl5Head ⟨a, b, c, []⟩)
theorem cn_LetterFault (a b c : Int) : ∀ H, call Try.prog cfg0 0 186 [.agg [.v (.int .i64 a), .v (.int .i64 b), .v (.int .i64 c), .v (.slice none 0 0)]] H = some (.v (.int .i64 (letterFault ⟨a, b, c, []⟩)), H) := fun H =>
  call_dz Try.func186 rfl ok_iLetterFault rfl (Dzs.cons (Dz.agg (n := 11) (Dzs.cons (Fz.int _ _ _).dz (Dzs.cons (Fz.int _ _ _).dz (Dzs.cons (Fz.int _ _ _).dz (Dzs.cons dz_nil Dzs.nil))))) Dzs.nil) (p_iLetterFault ⟨a, b, c, []⟩) H
def zeroL : LetterM := ⟨0, 0, 0, []⟩
def headL (l : List Int) : LetterM := ⟨l.getD 1 0, l.getD 2 0, rdN ((l.drop 3).take 8), []⟩
def readHead (l : List Int) : Int × LetterM := if l.length < 11 then (2, zeroL) else if l.getD 0 0 ≠ 1 then (1, zeroL) else if headOk (headL l) = true then (0, headL l) else (3, zeroL)
theorem head_parts {l : List Int} (hb : Eng.Bytes l) (h : 11 ≤ l.length) : ∃ z0 z1 z2 z3 : Int, l[0]? = some z0 ∧ l[1]? = some z1 ∧ l[2]? = some z2 ∧ l[3]? = some z3 ∧ l.getD 0 0 = z0 ∧ l.getD 1 0 = z1 ∧ l.getD 2 0 = z2 ∧ (0 ≤ z1 ∧ z1 ≤ 255) ∧ (0 ≤ z2 ∧ z2 ≤ 255) ∧ (127 < z3 → 9223372036854775808 ≤ rdN ((l.drop 3).take 8)) ∧ (¬ 127 < z3 → rdN ((l.drop 3).take 8) < 9223372036854775808) := by
  obtain ⟨z0, h0, -, m0⟩ := at_drop (l := l) (j := 0) (by omega)
  obtain ⟨z1, h1, -, m1⟩ := at_drop (l := l) (j := 1) (by omega)
  obtain ⟨z2, h2, -, m2⟩ := at_drop (l := l) (j := 2) (by omega)
  obtain ⟨z3, h3, d3, m3⟩ := at_drop (l := l) (j := 3) (by omega)
  have e : (l.drop 3).take 8 = z3 :: (l.drop 4).take 7 := by rw [d3]; rfl
  have hbr := bytes_sub hb 4 7
  have hlr : ((l.drop 4).take 7).length = 7 := by simp; omega
  have b1 := rdN_pos hbr
  have b2 := (rd_bound hbr 7 (by omega)).2
  rw [List.take_of_length_le (by omega)] at b2
  have e2 := rdN_cons z3 ((l.drop 4).take 7)
  rw [hlr] at e2
  have p7 : (256 : Int) ^ 7 = 72057594037927936 := by decide
  rw [p7] at e2 b2
  have hz3 := hb z3 m3
  refine ⟨z0, z1, z2, z3, h0, h1, h2, h3, ?_, ?_, ?_, hb z1 m1, hb z2 m2, ?_, ?_⟩
  · simp [List.getD_eq_getElem?_getD, h0]
  · simp [List.getD_eq_getElem?_getD, h1]
  · simp [List.getD_eq_getElem?_getD, h2]
  · intro h; rw [e, e2]; omega
  · intro h; rw [e, e2]; omega
def letRes (c : Int) (l : LetterM) : List AV := [.v (.int .i64 c), .v (.int .i64 l.Key), .v (.int .i64 l.Sender), .v (.int .i64 l.Counter), bytesL l.Text]
theorem ok_sReadHead : fnOk Try.prog cfg0 110 Try.f110 = true := by kernel_rfl
theorem p_sReadHead (l : List Int) (hb : Eng.Bytes l) (hl : l.length ≤ 1048576) : pure Try.prog cfg0 110 Try.f110 [bytesL l] = some (.agg (letRes (readHead l).1 (readHead l).2), true) := by
  refine pure_wp (rs := [.cell 2 153]) rfl rfl ?_
  by_cases h11 : l.length < 11
  · have hr : readHead l = (2, zeroL) := by unfold readHead; rw [if_pos h11]
    rw [hr]
    repeat' (first | ((first | refine wSeqr (fun xx hx => ?_) | refine wIf (fun xx hx => ?_) | refine wReg (fun xx hx => ?_) | (refine wRet ?_; (try simp only [thenQ, blockQ]); refine ends_by (fun xx hx => ?_))); have hc := trivial; (repeat' (simp only [hc, go_sem, Nat.reduceAdd, Nat.reduceMul, Nat.reduceSub, Nat.reduceEqDiff, Nat.reduceLT, Nat.reduceLeDiff, Int.reduceEq, Int.reduceLT, Int.reduceLE, reduceIte, aresults, aresult] at hx; (try (rw [guardL_if] at hx; split at hx <;> rename_i hc)))); all_goals (subst hx; first | (refine ⟨_, rfl, fun ht => ?_, fun ht => ?_⟩ <;> (try simp only [Bool.not_eq_true', Bool.not_eq_false', Bool.and_eq_true, Bool.and_eq_false_iff, Bool.or_eq_true, Bool.or_eq_false_iff, decide_eq_true_eq, decide_eq_false_iff_not, beq_iff_eq, bne_iff_ne, Bool.not_true, Bool.not_false, Bool.true_eq_false, Bool.false_eq_true, ne_eq, Decidable.not_not, inB_t, inB_f] at ht) <;> (try (exfalso; omega))) | (refine ⟨_, rfl, ?_⟩; (try simp only [tupOf])))) | refine wSkip ?_ | (refine wExit ?_; simp only [thenQ, blockQ, reduceIte, Nat.reduceEqDiff]) | refine wSeq ?_ | refine wBlock ?_)
    all_goals exact ⟨rfl, rfl⟩
  obtain ⟨z0, z1, z2, z3, g0, g1, g2, g3, e0, e1, e2, b1, b2, c1, c2⟩ := head_parts hb (by omega)
  have i0 := map_at (f := fun z => [AV.v (.int .u8 z)]) g0
  have i1 := map_at (f := fun z => [AV.v (.int .u8 z)]) g1
  have i2 := map_at (f := fun z => [AV.v (.int .u8 z)]) g2
  have i3 := map_at (f := fun z => [AV.v (.int .u8 z)]) g3
  have w1 : IntKind.wrap .i64 z1 = z1 := wrap_i64 (by omega) (by omega)
  have w2 : IntKind.wrap .i64 z2 = z2 := wrap_i64 (by omega) (by omega)
  have hr : readHead l = if z0 ≠ 1 then (1, zeroL) else if headOk ⟨z1, z2, rdN ((l.drop 3).take 8), []⟩ = true then (0, ⟨z1, z2, rdN ((l.drop 3).take 8), []⟩) else (3, zeroL) := by
    unfold readHead headL; rw [if_neg h11, e0, e1, e2]
  rw [hr]
  by_cases h3 : 127 < z3
  · have hno : headOk ⟨z1, z2, rdN ((l.drop 3).take 8), []⟩ = false := by
      have := c1 h3
      unfold headOk; simp only [Bool.and_eq_false_iff, inB_f]; omega
    repeat' (first | ((first | refine wSeqr (fun xx hx => ?_) | refine wIf (fun xx hx => ?_) | refine wReg (fun xx hx => ?_) | (refine wRet ?_; (try simp only [thenQ, blockQ]); refine ends_by (fun xx hx => ?_))); have hc := trivial; (repeat' (simp only [hc, go_sem, Nat.reduceAdd, Nat.reduceMul, Nat.reduceSub, Nat.reduceEqDiff, Nat.reduceLT, Nat.reduceLeDiff, Int.reduceEq, Int.reduceLT, Int.reduceLE, reduceIte, aresults, aresult, i0, i1, i2, i3, bytesL, List.length_map, w1, w2, aconv_int u5 u2, cell] at hx; (try (rw [guardL_if] at hx; split at hx <;> rename_i hc)))); all_goals (subst hx; first | (refine ⟨_, rfl, fun ht => ?_, fun ht => ?_⟩ <;> (try simp only [Bool.not_eq_true', Bool.not_eq_false', Bool.and_eq_true, Bool.and_eq_false_iff, Bool.or_eq_true, Bool.or_eq_false_iff, decide_eq_true_eq, decide_eq_false_iff_not, beq_iff_eq, bne_iff_ne, Bool.not_true, Bool.not_false, Bool.true_eq_false, Bool.false_eq_true, ne_eq, Decidable.not_not, inB_t, inB_f] at ht) <;> (try (exfalso; omega))) | (refine ⟨_, rfl, ?_⟩; (try simp only [tupOf])))) | refine wSkip ?_ | (refine wExit ?_; simp only [thenQ, blockQ, reduceIte, Nat.reduceEqDiff]) | refine wSeq ?_ | refine wBlock ?_)
    all_goals (try simp only [Bool.not_eq_true', Bool.not_eq_false', Bool.and_eq_true, Bool.and_eq_false_iff, Bool.or_eq_true, Bool.or_eq_false_iff, decide_eq_true_eq, decide_eq_false_iff_not, beq_iff_eq, bne_iff_ne, Bool.not_true, Bool.not_false, Bool.true_eq_false, Bool.false_eq_true, ne_eq, Decidable.not_not, inB_t, inB_f] at *)
    · rw [if_pos (by assumption)]; exact ⟨rfl, rfl⟩
    · rw [if_neg (by simp_all), hno, if_neg (by simp)]; exact ⟨rfl, rfl⟩
  · have hrd := c_sl1Read l 3 8 3 8 rfl rfl hb (by omega) hl (c2 h3)
    simp only [bytesL, cell] at hrd
    repeat' (first | ((first | refine wSeqr (fun xx hx => ?_) | refine wIf (fun xx hx => ?_) | refine wReg (fun xx hx => ?_) | (refine wRet ?_; (try simp only [thenQ, blockQ]); refine ends_by (fun xx hx => ?_))); have hc := trivial; (repeat' (simp only [hc, go_sem, Nat.reduceAdd, Nat.reduceMul, Nat.reduceSub, Nat.reduceEqDiff, Nat.reduceLT, Nat.reduceLeDiff, Int.reduceEq, Int.reduceLT, Int.reduceLE, reduceIte, aresults, aresult, i0, i1, i2, i3, bytesL, List.length_map, w1, w2, aconv_int u5 u2, cell, hp0, hrd, cpn_sl5Head z1 z2 (rdN ((l.drop 3).take 8))] at hx; (try (rw [guardL_if] at hx; split at hx <;> rename_i hc)))); all_goals (subst hx; first | (refine ⟨_, rfl, fun ht => ?_, fun ht => ?_⟩ <;> (try simp only [Bool.not_eq_true', Bool.not_eq_false', Bool.and_eq_true, Bool.and_eq_false_iff, Bool.or_eq_true, Bool.or_eq_false_iff, decide_eq_true_eq, decide_eq_false_iff_not, beq_iff_eq, bne_iff_ne, Bool.not_true, Bool.not_false, Bool.true_eq_false, Bool.false_eq_true, ne_eq, Decidable.not_not, inB_t, inB_f] at ht) <;> (try (exfalso; omega))) | (refine ⟨_, rfl, ?_⟩; (try simp only [tupOf])))) | refine wSkip ?_ | (refine wExit ?_; simp only [thenQ, blockQ, reduceIte, Nat.reduceEqDiff]) | refine wSeq ?_ | refine wBlock ?_)
    all_goals (try simp only [Bool.not_eq_true', Bool.not_eq_false', Bool.and_eq_true, Bool.and_eq_false_iff, Bool.or_eq_true, Bool.or_eq_false_iff, decide_eq_true_eq, decide_eq_false_iff_not, beq_iff_eq, bne_iff_ne, Bool.not_true, Bool.not_false, Bool.true_eq_false, Bool.false_eq_true, ne_eq, Decidable.not_not, inB_t, inB_f] at *)
    · rw [if_pos (by assumption)]; exact ⟨rfl, rfl⟩
    · rw [if_neg (by simp_all), if_neg (by simp_all)]; exact ⟨rfl, rfl⟩
    · rw [if_neg (by simp_all), if_pos (by assumption)]; exact ⟨rfl, rfl⟩
theorem c_sReadHead (l : List Int) (hb : Eng.Bytes l) (hl : l.length ≤ 1048576) : ∀ H, call Try.prog cfg0 0 110 [bytesL l] H = some (.agg (letRes (readHead l).1 (readHead l).2), H) :=
  call_fz Try.func110 rfl ok_sReadHead rfl (by simp only [fz_cons, fz_nil, go_sem, and_self]) (p_sReadHead l hb hl)

theorem ok_iReadHead : fnOk Try.prog cfg0 112 Try.f112 = true := by kernel_rfl
theorem p_iReadHead (l : List Int) (hb : Eng.Bytes l) (hl : l.length ≤ 1048576) : pure Try.prog cfg0 112 Try.f112 [bytesL l] = some (.agg (letRes (readHead l).1 (readHead l).2), true) := by
  refine pure_wp (rs := [.cell 2 153]) rfl rfl ?_
  by_cases h11 : l.length < 11
  · have hr : readHead l = (2, zeroL) := by unfold readHead; rw [if_pos h11]
    rw [hr]
    repeat' (first | ((first | refine wSeqr (fun xx hx => ?_) | refine wIf (fun xx hx => ?_) | refine wReg (fun xx hx => ?_) | (refine wRet ?_; (try simp only [thenQ, blockQ]); refine ends_by (fun xx hx => ?_))); have hc := trivial; (repeat' (simp only [hc, go_sem, Nat.reduceAdd, Nat.reduceMul, Nat.reduceSub, Nat.reduceEqDiff, Nat.reduceLT, Nat.reduceLeDiff, Int.reduceEq, Int.reduceLT, Int.reduceLE, reduceIte, aresults, aresult] at hx; (try (rw [guardL_if] at hx; split at hx <;> rename_i hc)))); all_goals (subst hx; first | (refine ⟨_, rfl, fun ht => ?_, fun ht => ?_⟩ <;> (try simp only [Bool.not_eq_true', Bool.not_eq_false', Bool.and_eq_true, Bool.and_eq_false_iff, Bool.or_eq_true, Bool.or_eq_false_iff, decide_eq_true_eq, decide_eq_false_iff_not, beq_iff_eq, bne_iff_ne, Bool.not_true, Bool.not_false, Bool.true_eq_false, Bool.false_eq_true, ne_eq, Decidable.not_not, inB_t, inB_f] at ht) <;> (try (exfalso; omega))) | (refine ⟨_, rfl, ?_⟩; (try simp only [tupOf])))) | refine wSkip ?_ | (refine wExit ?_; simp only [thenQ, blockQ, reduceIte, Nat.reduceEqDiff]) | refine wSeq ?_ | refine wBlock ?_)
    all_goals exact ⟨rfl, rfl⟩
  obtain ⟨z0, z1, z2, z3, g0, g1, g2, g3, e0, e1, e2, b1, b2, c1, c2⟩ := head_parts hb (by omega)
  have i0 := map_at (f := fun z => [AV.v (.int .u8 z)]) g0
  have i1 := map_at (f := fun z => [AV.v (.int .u8 z)]) g1
  have i2 := map_at (f := fun z => [AV.v (.int .u8 z)]) g2
  have w1 : IntKind.wrap .i64 z1 = z1 := wrap_i64 (by omega) (by omega)
  have w2 : IntKind.wrap .i64 z2 = z2 := wrap_i64 (by omega) (by omega)
  have hr : readHead l = if z0 ≠ 1 then (1, zeroL) else if headOk ⟨z1, z2, rdN ((l.drop 3).take 8), []⟩ = true then (0, ⟨z1, z2, rdN ((l.drop 3).take 8), []⟩) else (3, zeroL) := by
    unfold readHead headL; rw [if_neg h11, e0, e1, e2]
  rw [hr]
  have hrw := c_iReadWord l 3 8 3 8 rfl rfl hb (by omega) (by omega) hl (by omega)
  simp only [bytesL, cell] at hrw
  by_cases h3 : rdN ((l.drop 3).take 8) < 9223372036854775808
  · have hv : readWord l 3 8 = (0, rdN ((l.drop 3).take 8)) := by unfold readWord; rw [if_pos (by omega), if_pos h3]
    rw [hv] at hrw
    have hlf : letterFault ⟨z1, z2, rdN ((l.drop 3).take 8), []⟩ = if headOk ⟨z1, z2, rdN ((l.drop 3).take 8), []⟩ = true then 0 else 3 := by unfold letterFault; simp
    repeat' (first | ((first | refine wSeqr (fun xx hx => ?_) | refine wIf (fun xx hx => ?_) | refine wReg (fun xx hx => ?_) | (refine wRet ?_; (try simp only [thenQ, blockQ]); refine ends_by (fun xx hx => ?_))); have hc := trivial; (repeat' (simp only [hc, go_sem, Nat.reduceAdd, Nat.reduceMul, Nat.reduceSub, Nat.reduceEqDiff, Nat.reduceLT, Nat.reduceLeDiff, Int.reduceEq, Int.reduceLT, Int.reduceLE, reduceIte, aresults, aresult, i0, i1, i2, bytesL, List.length_map, w1, w2, aconv_int u5 u2, cell, hp0, hrw, cn_LetterFault, hlf] at hx; (try (rw [guardL_if] at hx; split at hx <;> rename_i hc)))); all_goals (subst hx; first | (refine ⟨_, rfl, fun ht => ?_, fun ht => ?_⟩ <;> (try simp only [Bool.not_eq_true', Bool.not_eq_false', Bool.and_eq_true, Bool.and_eq_false_iff, Bool.or_eq_true, Bool.or_eq_false_iff, decide_eq_true_eq, decide_eq_false_iff_not, beq_iff_eq, bne_iff_ne, Bool.not_true, Bool.not_false, Bool.true_eq_false, Bool.false_eq_true, ne_eq, Decidable.not_not, inB_t, inB_f] at ht) <;> (try (exfalso; omega))) | (refine ⟨_, rfl, ?_⟩; (try simp only [tupOf])))) | refine wSkip ?_ | (refine wExit ?_; simp only [thenQ, blockQ, reduceIte, Nat.reduceEqDiff]) | refine wSeq ?_ | refine wBlock ?_)
    all_goals (try simp only [Bool.not_eq_true', Bool.not_eq_false', Bool.and_eq_true, Bool.and_eq_false_iff, Bool.or_eq_true, Bool.or_eq_false_iff, decide_eq_true_eq, decide_eq_false_iff_not, beq_iff_eq, bne_iff_ne, Bool.not_true, Bool.not_false, Bool.true_eq_false, Bool.false_eq_true, ne_eq, Decidable.not_not, inB_t, inB_f] at *)
    · rw [if_pos (by assumption)]; exact ⟨rfl, rfl⟩
    all_goals (
      have hz1 : ¬ z0 ≠ 1 := by simp_all
      rw [if_neg hz1]
      by_cases hh : headOk ⟨z1, z2, rdN ((l.drop 3).take 8), []⟩ = true
      · rw [if_pos hh]; first | exact ⟨rfl, rfl⟩ | (exfalso; simp_all; done)
      · rw [if_neg hh]; first | exact ⟨rfl, rfl⟩ | (exfalso; simp_all; done))
  · have hno : headOk ⟨z1, z2, rdN ((l.drop 3).take 8), []⟩ = false := by
      unfold headOk; simp only [Bool.and_eq_false_iff, inB_f]; omega
    have hv : readWord l 3 8 = (1, 0) := by unfold readWord; rw [if_pos (by omega), if_neg h3]
    rw [hv] at hrw
    repeat' (first | ((first | refine wSeqr (fun xx hx => ?_) | refine wIf (fun xx hx => ?_) | refine wReg (fun xx hx => ?_) | (refine wRet ?_; (try simp only [thenQ, blockQ]); refine ends_by (fun xx hx => ?_))); have hc := trivial; (repeat' (simp only [hc, go_sem, Nat.reduceAdd, Nat.reduceMul, Nat.reduceSub, Nat.reduceEqDiff, Nat.reduceLT, Nat.reduceLeDiff, Int.reduceEq, Int.reduceLT, Int.reduceLE, reduceIte, aresults, aresult, i0, i1, i2, bytesL, List.length_map, w1, w2, aconv_int u5 u2, cell, hp0, hrw] at hx; (try (rw [guardL_if] at hx; split at hx <;> rename_i hc)))); all_goals (subst hx; first | (refine ⟨_, rfl, fun ht => ?_, fun ht => ?_⟩ <;> (try simp only [Bool.not_eq_true', Bool.not_eq_false', Bool.and_eq_true, Bool.and_eq_false_iff, Bool.or_eq_true, Bool.or_eq_false_iff, decide_eq_true_eq, decide_eq_false_iff_not, beq_iff_eq, bne_iff_ne, Bool.not_true, Bool.not_false, Bool.true_eq_false, Bool.false_eq_true, ne_eq, Decidable.not_not, inB_t, inB_f] at ht) <;> (try (exfalso; omega))) | (refine ⟨_, rfl, ?_⟩; (try simp only [tupOf])))) | refine wSkip ?_ | (refine wExit ?_; simp only [thenQ, blockQ, reduceIte, Nat.reduceEqDiff]) | refine wSeq ?_ | refine wBlock ?_)
    all_goals (try simp only [Bool.not_eq_true', Bool.not_eq_false', Bool.and_eq_true, Bool.and_eq_false_iff, Bool.or_eq_true, Bool.or_eq_false_iff, decide_eq_true_eq, decide_eq_false_iff_not, beq_iff_eq, bne_iff_ne, Bool.not_true, Bool.not_false, Bool.true_eq_false, Bool.false_eq_true, ne_eq, Decidable.not_not, inB_t, inB_f] at *)
    · rw [if_pos (by assumption)]; exact ⟨rfl, rfl⟩
    · rw [if_neg (by simp_all), hno, if_neg (by simp)]; exact ⟨rfl, rfl⟩
theorem c_iReadHead (l : List Int) (hb : Eng.Bytes l) (hl : l.length ≤ 1048576) : ∀ H, call Try.prog cfg0 0 112 [bytesL l] H = some (.agg (letRes (readHead l).1 (readHead l).2), H) :=
  call_fz Try.func112 rfl ok_iReadHead rfl (by simp only [fz_cons, fz_nil, go_sem, and_self]) (p_iReadHead l hb hl)

end
end Go.Proofs.Ytmobkpfalcfepaa
