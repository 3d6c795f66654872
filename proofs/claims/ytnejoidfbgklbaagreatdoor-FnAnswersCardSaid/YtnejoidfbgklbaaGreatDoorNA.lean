/- Contracts: numbers into bytes; copies, comparisons and joins of bytes. Contracts: joins of bytes; messages into bytes. Names in bytes: what is read, what is written, and that what was written is read back. Joins of bytes whose parts are literals; records and answers in bytes. Contracts: labels, both sides; names into bytes. Contracts: names into bytes, both sides. Contracts: names into bytes, the reference. -/
import Derived.Test.YtnejoidfbgklbaaGreatDoorKB
namespace Go.Proofs.YtnejoidfbgklbaaGreatDoor
open Go Go.RowKit Go.Proofs.YtnejoidfbgklbaaGreatDoor.Eng
set_option linter.unusedSimpArgs false
set_option linter.unusedVariables false
set_option maxRecDepth 100000
set_option maxHeartbeats 2000000
noncomputable section
theorem slB (H : Hp) (e : Env) (l : List Int) (lo : Option Operand) (hi : Operand) : aslice Tryz.prog H e 22 (bytesL l) lo (some hi) none = sliceB l (bound e 0 lo) (natOf (opd e hi)) := aslice_B u22 sz5 H e l lo hi
theorem slF (H : Hp) (e : Env) (l : List Int) (lo : Option Operand) : aslice Tryz.prog H e 22 (bytesL l) lo none none = sliceF l (bound e 0 lo) := aslice_F u22 sz5 H e l lo
theorem slN (H : Hp) (e : Env) (lo : Option Operand) (hi : Operand) : aslice Tryz.prog H e 22 (.v (.slice none 0 0)) lo (some hi) none = sliceN (bound e 0 lo) (natOf (opd e hi)) := aslice_N u22 sz5 H e lo hi
theorem slO (H : Hp) (e : Env) (b o n : Nat) (lo : Option Operand) (hi : Operand) : aslice Tryz.prog H e 22 (.sl b 1 o n) lo (some hi) none = sliceO (H.h b) b 1 o (bound e 0 lo) (natOf (opd e hi)) := aslice_O u22 sz5 (by omega) H e b o n lo hi
theorem slOF (H : Hp) (e : Env) (b o n : Nat) (lo : Option Operand) : aslice Tryz.prog H e 22 (.sl b 1 o n) lo none none = sliceO (H.h b) b 1 o (bound e 0 lo) (some n) := aslice_OF u22 sz5 (by omega) H e b o n lo
attribute [go_sem] slB slF slN slO slOF
/-- A number in m bytes, the highest one first. -/
def wordL (n : Int) (m : Nat) : List Int := (List.range m).reverse.map fun (i : Nat) => n / 256 ^ i % 256
theorem wordL_zero (n : Int) : wordL n 0 = [] := rfl
theorem wordL_succ (n : Int) (m : Nat) : wordL n (m + 1) = (n / 256 ^ m % 256) :: wordL n m := by simp [wordL, List.range_succ]
theorem wordL_len (n : Int) (m : Nat) : (wordL n m).length = m := by simp [wordL]
theorem wordL_bytes (n : Int) (m : Nat) : Eng.Bytes (wordL n m) := by
  intro z hz
  obtain ⟨i, -, rfl⟩ := List.mem_map.1 hz
  omega
theorem wordL_ne (n : Int) {m : Nat} (h : 0 < m) : wordL n m ≠ [] := fun e => by have := wordL_len n m; rw [e] at this; simp at this; omega
theorem q_pos {n : Int} (h : 0 ≤ n) (j : Nat) : 0 ≤ n / 256 ^ j ∧ n / 256 ^ j ≤ n := by
  have hp : (0 : Int) < 256 ^ j := Int.pow_pos (by omega)
  refine ⟨Int.ediv_nonneg h (Int.le_of_lt hp), ?_⟩
  exact Int.ediv_le_self _ h
theorem q_next {n : Int} (j : Nat) : n / 256 ^ (j + 1) = n / 256 ^ j / 256 := by
  rw [Int.pow_succ, Int.ediv_ediv_of_nonneg (Int.le_of_lt (Int.pow_pos (by omega)))]
theorem rep_set {m j : Nat} (hj : j < m) (w : List Int) (z : Int) : ((List.replicate (m - j) (0 : Int) ++ w).set (m - 1 - j) z) = List.replicate (m - (j + 1)) 0 ++ z :: w := by
  obtain ⟨d, hd⟩ : ∃ d, m - j = d + 1 := ⟨m - j - 1, by omega⟩
  rw [hd, show m - 1 - j = d by omega, show m - (j + 1) = d by omega, List.replicate_succ', List.append_assoc, List.set_append_right _ _ (by simp)]
  simp
theorem ok_iword : fnOk Tryz.prog cfg0 67 Tryz.f67 = true := by kernel_rfl
theorem pq_iword (n : Int) (m : Nat) (m' : Int) (hm : m' = m) (hn : 0 ≤ n ∧ n ≤ 9223372036854775807) (hs : m ≤ 8) : pure Tryz.prog cfg0 67 Tryz.f67 [.v (.int .i64 n), .v (.int .i64 m')] = some (bytesL (wordL n m), true) ∧ owned Tryz.prog cfg0 67 Tryz.f67 [.v (.int .i64 n), .v (.int .i64 m')] = some (bytesL (wordL n m)) := by
  refine both_wp (rs := [.tmp 4]) rfl rfl ?_
  have hp0 : ∀ b, cfg0.pol 67 b = 0 := fun b => rfl
  subst hm
  have hr := roomy_1 (n := m) (by omega)
  have w0 : IntKind.wrap .i64 ((m : Int) - 1) = (m : Int) - 1 := wrap_i64 (by omega) (by omega)
  (have hF := an hp0 <| an hr <| w0; have hc := trivial; repeat' (first | refine wK ?_ | refine wX ?_ | refine rR ?_ | refine rB ?_ ?_ <;> intro ht <;> try simp only [bbs] at ht | refine rG ?_ ?_ <;> intro hc | refine rZ ?_ | refine wQ ?_))
  refine wLoop (fun k s => ∃ (j : Nat), j + k = m ∧ s.1 0 = .v (.int .i64 (n / 256 ^ j)) ∧ s.1 5 = .sl 0 1 0 m ∧ s.1 6 = .v (.int .i64 ((m : Int) - 1 - (j : Nat))) ∧ (s.2.h 0 = some ((List.replicate (m - j) 0 ++ wordL n j).map cell))) (fun k s hI => ?_) (m) _ ?_
  · obtain ⟨e, H⟩ := s
    obtain ⟨j, hj, h0, h5, h6, hh⟩ := hI
    simp only at h0 h5 h6 hh
    obtain ⟨q1, q2⟩ := q_pos hn.1 j
    by_cases hlt : j < m
    · have hnat : natOf (.v (.int .i64 ((m : Int) - 1 - (j : Nat)))) = some (m - 1 - j) := by
        simp only [natOf]
        rw [if_pos (by omega), show ((m : Int) - 1 - (j : Nat)).toNat = m - 1 - j by omega]
      have hge : (0 : Int) ≤ (m : Int) - 1 - (j : Nat) := by omega
      have w1 : (n / 256 ^ j).tmod 256 = n / 256 ^ j % 256 := Int.tmod_eq_emod_of_nonneg q1
      have w2 : IntKind.wrap .u8 (n / 256 ^ j % 256) = n / 256 ^ j % 256 := wrap_u8 (by omega) (by omega)
      have w3 : IntKind.wrap .i64 ((n / 256 ^ j).tdiv 256) = n / 256 ^ (j + 1) := by rw [Int.tdiv_eq_ediv_of_nonneg q1, q_next]; exact wrap_i64 (by omega) (by omega)
      have w4 : IntKind.wrap .i64 ((m : Int) - 1 - (j : Nat) - 1) = (m : Int) - 1 - ((j + 1 : Nat) : Int) := by rw [wrap_i64 (by omega) (by omega)]; omega
      have hlen : (List.map cell (List.replicate (m - j) 0 ++ wordL n j)).length = m := by simp [wordL_len]; omega
      have hlt2 : m - 1 - j < m := by omega
      have hle2 : m - 1 - j + 1 ≤ m := by omega
      (have hF := an hp0 <| an h0 <| an h5 <| an h6 <| an hnat <| an hge <| an hh <| an hlen <| an hlt2 <| an hle2 <| an w1 <| an w2 <| an w3 <| an w4 <| an @Option.isSome_some.{0} <| (aconv_int u2 u5); have hc := trivial; repeat' (first | refine wK ?_ | refine wX ?_ | refine rR ?_ | refine rB ?_ ?_ <;> intro ht <;> try simp only [bbs] at ht | refine rG ?_ ?_ <;> intro hc | refine rZ ?_ | refine wQ ?_))
      all_goals first
        | (exfalso; (try simp only [bbs] at *); omega)
        | skip
      have hS := an h0 <| an h5 <| h6; refine ⟨_, Nat.sub_lt (by omega) Nat.one_pos, j + 1, by omega, sl, sl, sl, ?_⟩
      simp only [Hp.set_h, if_true]
      refine congrArg some ?_
      show ((List.replicate (m - j) (0 : Int) ++ wordL n j).map cell).set (m - 1 - j) (cell (n / 256 ^ j % 256)) = _
      rw [← List.map_set, rep_set hlt, wordL_succ]
    · have hj' : j = m := by omega
      have hge : ¬ (0 : Int) ≤ (m : Int) - 1 - (j : Nat) := by omega
      (have hF := an hp0 <| an h5 <| an h6 <| hge; have hc := trivial; repeat' (first | refine wK ?_ | refine wX ?_ | refine rR ?_ | refine rB ?_ ?_ <;> intro ht <;> try simp only [bbs] at ht | refine rG ?_ ?_ <;> intro hc | refine rZ ?_ | refine wQ ?_))
      all_goals first
        | (exfalso; (try simp only [bbs] at *); omega)
        | skip
      have hh' : H.h 0 = some ((wordL n m).map cell) := by rw [hh, hj', Nat.sub_self]; rfl
      have := gO_bytes hh'
      rw [wordL_len] at this
      exact this
  · refine ⟨0, by omega, ?_, rfl, ?_, ?_⟩
    · simp only [upd_eq, Nat.reduceEqDiff, if_false, Int.pow_zero, Int.ediv_one]; rfl
    · simp only [upd_eq, Nat.reduceEqDiff, if_true]; simp
    · simp only [Hp.new_h, nil_g, if_true, Nat.sub_zero, wordL_zero, List.append_nil]
      exact congrArg some (zeros_cell _)
theorem c_iword (n : Int) (m : Nat) (m' : Int) (hm : m' = m) (hn : 0 ≤ n ∧ n ≤ 9223372036854775807) (hs : m ≤ 8) : ∀ H, call Tryz.prog cfg0 0 67 [.v (.int .i64 n), .v (.int .i64 m')] H = some (bytesL (wordL n m), H) :=
  call_fz Tryz.func67 rfl ok_iword rfl (by simp only [fz_cons, fz_nil, go_sem, and_self]) (pq_iword n m m' hm hn hs).1
theorem ok_sl1Pack : fnOk Tryz.prog cfg0 83 Tryz.f83 = true := by kernel_rfl
theorem pq_sl1Pack (n : Int) (m : Nat) (m' : Int) (hm : m' = m) (hn : 0 ≤ n ∧ n ≤ 9223372036854775807) (hs : m ≤ 8) : pure Tryz.prog cfg0 83 Tryz.f83 [.v (.int .i64 n), .v (.int .i64 m')] = some (bytesL (wordL n m), true) ∧ owned Tryz.prog cfg0 83 Tryz.f83 [.v (.int .i64 n), .v (.int .i64 m')] = some (bytesL (wordL n m)) := by
  refine both_wp (rs := [.tmp 4]) rfl rfl ?_
  have hp0 : ∀ b, cfg0.pol 83 b = 0 := fun b => rfl
  subst hm
  have hr := roomy_1 (n := m) (by omega)
  have w0 : IntKind.wrap .i64 ((m : Int) - 1) = (m : Int) - 1 := wrap_i64 (by omega) (by omega)
  (have hF := an hp0 <| an hr <| w0; have hc := trivial; repeat' (first | refine wK ?_ | refine wX ?_ | refine rR ?_ | refine rB ?_ ?_ <;> intro ht <;> try simp only [bbs] at ht | refine rG ?_ ?_ <;> intro hc | refine rZ ?_ | refine wQ ?_))
  refine wLoop (fun k s => ∃ (j : Nat), j + k = m ∧ s.1 0 = .v (.int .i64 (n / 256 ^ j)) ∧ s.1 5 = .sl 0 1 0 m ∧ s.1 6 = .v (.int .i64 ((m : Int) - 1 - (j : Nat))) ∧ (s.2.h 0 = some ((List.replicate (m - j) 0 ++ wordL n j).map cell))) (fun k s hI => ?_) (m) _ ?_
  · obtain ⟨e, H⟩ := s
    obtain ⟨j, hj, h0, h5, h6, hh⟩ := hI
    simp only at h0 h5 h6 hh
    obtain ⟨q1, q2⟩ := q_pos hn.1 j
    by_cases hlt : j < m
    · have hnat : natOf (.v (.int .i64 ((m : Int) - 1 - (j : Nat)))) = some (m - 1 - j) := by
        simp only [natOf]
        rw [if_pos (by omega), show ((m : Int) - 1 - (j : Nat)).toNat = m - 1 - j by omega]
      have hge : (0 : Int) ≤ (m : Int) - 1 - (j : Nat) := by omega
      have w1 : (n / 256 ^ j).tmod 256 = n / 256 ^ j % 256 := Int.tmod_eq_emod_of_nonneg q1
      have w2 : IntKind.wrap .u8 (n / 256 ^ j % 256) = n / 256 ^ j % 256 := wrap_u8 (by omega) (by omega)
      have w3 : IntKind.wrap .i64 ((n / 256 ^ j).tdiv 256) = n / 256 ^ (j + 1) := by rw [Int.tdiv_eq_ediv_of_nonneg q1, q_next]; exact wrap_i64 (by omega) (by omega)
      have w4 : IntKind.wrap .i64 ((m : Int) - 1 - (j : Nat) - 1) = (m : Int) - 1 - ((j + 1 : Nat) : Int) := by rw [wrap_i64 (by omega) (by omega)]; omega
      have hlen : (List.map cell (List.replicate (m - j) 0 ++ wordL n j)).length = m := by simp [wordL_len]; omega
      have hlt2 : m - 1 - j < m := by omega
      have hle2 : m - 1 - j + 1 ≤ m := by omega
      (have hF := an hp0 <| an h0 <| an h5 <| an h6 <| an hnat <| an hge <| an hh <| an hlen <| an hlt2 <| an hle2 <| an w1 <| an w2 <| an w3 <| an w4 <| an @Option.isSome_some.{0} <| (aconv_int u2 u5); have hc := trivial; repeat' (first | refine wK ?_ | refine wX ?_ | refine rR ?_ | refine rB ?_ ?_ <;> intro ht <;> try simp only [bbs] at ht | refine rG ?_ ?_ <;> intro hc | refine rZ ?_ | refine wQ ?_))
      all_goals first
        | (exfalso; (try simp only [bbs] at *); omega)
        | skip
      have hS := an h0 <| an h5 <| h6; refine ⟨_, Nat.sub_lt (by omega) Nat.one_pos, j + 1, by omega, sl, sl, sl, ?_⟩
      simp only [Hp.set_h, if_true]
      refine congrArg some ?_
      show ((List.replicate (m - j) (0 : Int) ++ wordL n j).map cell).set (m - 1 - j) (cell (n / 256 ^ j % 256)) = _
      rw [← List.map_set, rep_set hlt, wordL_succ]
    · have hj' : j = m := by omega
      have hge : ¬ (0 : Int) ≤ (m : Int) - 1 - (j : Nat) := by omega
      (have hF := an hp0 <| an h5 <| an h6 <| hge; have hc := trivial; repeat' (first | refine wK ?_ | refine wX ?_ | refine rR ?_ | refine rB ?_ ?_ <;> intro ht <;> try simp only [bbs] at ht | refine rG ?_ ?_ <;> intro hc | refine rZ ?_ | refine wQ ?_))
      all_goals first
        | (exfalso; (try simp only [bbs] at *); omega)
        | skip
      have hh' : H.h 0 = some ((wordL n m).map cell) := by rw [hh, hj', Nat.sub_self]; rfl
      have := gO_bytes hh'
      rw [wordL_len] at this
      exact this
  · refine ⟨0, by omega, ?_, rfl, ?_, ?_⟩
    · simp only [upd_eq, Nat.reduceEqDiff, if_false, Int.pow_zero, Int.ediv_one]; rfl
    · simp only [upd_eq, Nat.reduceEqDiff, if_true]; simp
    · simp only [Hp.new_h, nil_g, if_true, Nat.sub_zero, wordL_zero, List.append_nil]
      exact congrArg some (zeros_cell _)
theorem o_sl1Pack (n : Int) (m : Nat) (m' : Int) (hm : m' = m) (hn : 0 ≤ n ∧ n ≤ 9223372036854775807) (hs : m ≤ 8) : ∀ H, call Tryz.prog cfg0 1 83 [.v (.int .i64 n), .v (.int .i64 m')] H = mat depthD (bytesL (wordL n m)) H := fun H =>
  call_ofO Tryz.func83 rfl ok_sl1Pack rfl (mapM_self fun x hx => ((show ∀ x ∈ ([.v (.int .i64 n), .v (.int .i64 m')] : List AV), Fz depthD x by simp only [fz_cons, fz_nil, go_sem, and_self]) x hx).1 H) (pq_sl1Pack n m m' hm hn hs).2

theorem ok_inoBytes : fnOk Tryz.prog cfg0 27 Tryz.f27 = true := by kernel_rfl
theorem pq_inoBytes (n : Int) : pure Tryz.prog cfg0 27 Tryz.f27 [.v (.int .i64 n)] = some (.agg [.v (.int .i64 n), .lst false []], true) ∧ owned Tryz.prog cfg0 27 Tryz.f27 [.v (.int .i64 n)] = some (.agg [.v (.int .i64 n), .lst false []]) := by
  refine both_wp (rs := [.cell 2 29]) rfl rfl ?_
  have hp0 : ∀ b, cfg0.pol 27 b = 0 := fun b => rfl
  (have hF := hp0; have hc := trivial; repeat' (first | refine wK ?_ | refine wX ?_ | refine rR ?_ | refine rB ?_ ?_ <;> intro ht <;> try simp only [bbs] at ht | refine rG ?_ ?_ <;> intro hc | refine rZ ?_ | refine wQ ?_))
  all_goals exact ⟨⟨rfl, rfl⟩, own_agg2 ⟨[], rfl, List.nodup_nil⟩⟩
theorem c_inoBytes (n : Int) : ∀ H, call Tryz.prog cfg0 0 27 [.v (.int .i64 n)] H = some (.agg [.v (.int .i64 n), .lst false []], H) :=
  call_fz Tryz.func27 rfl ok_inoBytes rfl (by simp only [fz_cons, fz_nil, go_sem, and_self]) (pq_inoBytes n).1
theorem ok_inumber : fnOk Tryz.prog cfg0 34 Tryz.f34 = true := by kernel_rfl
theorem p_inumber (l : List Int) (a m : Nat) (a' m' : Int) (ha' : a' = a) (hm' : m' = m) (hb : Eng.Bytes l) (hm1 : 1 ≤ m) (hm8 : m ≤ 8) (hl : l.length ≤ 1048576) (hab : a ≤ 1048576) : pure Tryz.prog cfg0 34 Tryz.f34 [bytesL l, .v (.int .i64 a'), .v (.int .i64 m')] = some (.tup [.v (.int .i64 (readWord l a m).2), .v (.bool (decide ((readWord l a m).1 = 0)))], true) := by
  refine pure_wp (rs := [.tmp 6, .tmp 7]) rfl rfl ?_
  have hp0 : ∀ b, cfg0.pol 34 b = 0 := fun b => rfl
  (have hF := an hp0 <| (c_iReadWord l a m a' m' ha' hm' hb hm1 hm8 hl hab); have hc := trivial; repeat' (first | refine wK ?_ | refine wX ?_ | refine rR ?_ | refine rB ?_ ?_ <;> intro ht <;> try simp only [bbs] at ht | refine rG ?_ ?_ <;> intro hc | refine rZ ?_ | refine wQ ?_))
  all_goals exact ⟨rfl, rfl⟩
theorem c_inumber (l : List Int) (a m : Nat) (a' m' : Int) (ha' : a' = a) (hm' : m' = m) (hb : Eng.Bytes l) (hm1 : 1 ≤ m) (hm8 : m ≤ 8) (hl : l.length ≤ 1048576) (hab : a ≤ 1048576) : ∀ H, call Tryz.prog cfg0 0 34 [bytesL l, .v (.int .i64 a'), .v (.int .i64 m')] H = some (.tup [.v (.int .i64 (readWord l a m).2), .v (.bool (decide ((readWord l a m).1 = 0)))], H) :=
  call_fz Tryz.func34 rfl ok_inumber rfl (by simp only [fz_cons, fz_nil, go_sem, and_self]) (p_inumber l a m a' m' ha' hm' hb hm1 hm8 hl hab)

-- not here: slices_Clone_byte_byte_
theorem ok_sl1Copy : fnOk Tryz.prog cfg0 55 Tryz.f55 = true := by kernel_rfl
theorem pq_sl1Copy (l : List Int) (hl : l.length ≤ 1048576) : pure Tryz.prog cfg0 55 Tryz.f55 [bytesL l] = some (bytesL l, true) ∧ owned Tryz.prog cfg0 55 Tryz.f55 [bytesL l] = some (bytesL l) := by
  refine both_wp (rs := [.tmp 2]) rfl rfl ?_
  have hp0 : ∀ b, cfg0.pol 55 b = 0 := fun b => rfl
  (have hF := hp0; have hc := trivial; repeat' (first | refine wK ?_ | refine wX ?_ | refine rR ?_ | refine rB ?_ ?_ <;> intro ht <;> try simp only [bbs] at ht | refine rG ?_ ?_ <;> intro hc | refine rZ ?_ | refine wQ ?_))
  have hF := hp0; have hc := trivial; (try refine wX ?_); refine rN (fun xx hx => ?_); generalize hq : aappend Tryz.prog _ _ _ _ = q at hx
  obtain ⟨x', H', rfl, hacc, -, -⟩ := app_rows hq el22 zero5 by5 int22 (sz := 1) rfl (by omega) RAcc.lst (alen_bytes _) (afirst_bytes _ _) (by simp) (by omega) (by omega)
  (subst hx; have hF := hp0; have hc := trivial; repeat' (first | refine rR ?_ | refine rG ?_ ?_ <;> intro hc | refine rZ ?_ | fail))
  (have hF := trivial; have hc := trivial; repeat' (first | refine wK ?_ | refine wX ?_ | refine rR ?_ | refine rB ?_ ?_ <;> intro ht <;> try simp only [bbs] at ht | refine rG ?_ ?_ <;> intro hc | refine rZ ?_ | refine wQ ?_))
  rw [List.nil_append] at hacc
  exact gO_bytesR hacc
theorem o_sl1Copy (l : List Int) (hl : l.length ≤ 1048576) : ∀ H, call Tryz.prog cfg0 1 55 [bytesL l] H = mat depthD (bytesL l) H := fun H =>
  call_ofO Tryz.func55 rfl ok_sl1Copy rfl (mapM_self fun x hx => ((show ∀ x ∈ ([bytesL l] : List AV), Fz depthD x by simp only [fz_cons, fz_nil, go_sem, and_self]) x hx).1 H) (pq_sl1Copy l hl).2

-- not here: slices_Equal_byte_byte_
theorem ok_Grow : fnOk Tryz.prog cfg0 66 Tryz.f66 = true := by kernel_rfl
theorem cr_Grow (n : Nat) (h0 : 0 < n) (hn : n ≤ 1048576) : ∀ H, call Tryz.prog cfg0 0 66 [.v (.slice none 0 0), .v (.int .i64 (n : Nat))] H = some (.sl H.g 1 0 0, H.new ((List.replicate n 0).map cell)) := by
  intro H
  have key : ∃ r, body Tryz.prog cfg0 66 Tryz.f66 [.v (.slice none 0 0), .v (.int .i64 (n : Nat))] H = some r ∧ (r.1 = .sl H.g 1 0 0 ∧ r.2 = H.new ((List.replicate n 0).map cell)) := by
    refine body_wp (rs := [.tmp 4]) rfl rfl (R := fun x H' => x = .sl H.g 1 0 0 ∧ H' = H.new ((List.replicate n 0).map cell)) ?_
    have hp0 : ∀ b, cfg0.pol 66 b = 0 := fun b => rfl
    have w1 : IntKind.wrap .i64 ((n : Int) - 0) = (n : Int) := by rw [wrap_i64 (by omega) (by omega)]; omega
    have w0 : IntKind.wrap .i64 (((0 : Nat) : Int) - ((0 : Nat) : Int)) = 0 := by decide
    have hap : ∀ K : Hp, aappend Tryz.prog K [22, 3] (.v (.slice none 0 0)) (.v (.int .i64 (n : Nat))) = some (.sl K.g 1 0 n, K.new ((List.replicate n 0).map cell)) := by
      intro K
      have hi : intT Tryz.prog 3 = some true := by kernel_rfl
      have hz : zeroOf Tryz.prog 5 = some [cell 0] := zero5
      simp only [aappend, el22, hz, by5, Option.bind_some, aappended, hi, if_true, natOf_nat]
      rw [if_pos (by omega)]
      simp only [Option.bind_some]
      rw [if_neg (by omega), if_neg (by simp), if_pos (roomy_1 (by omega)), zeros_cell]
      rfl
    (have hF := an hp0 <| an w0 <| an w1 <| hap; have hc := trivial; repeat' (first | refine wK ?_ | refine wX ?_ | refine rR ?_ | refine rB ?_ ?_ <;> intro ht <;> try simp only [bbs] at ht | refine rG ?_ ?_ <;> intro hc | refine rZ ?_ | refine wQ ?_))
    all_goals first
      | (exfalso; (try simp only [bbs] at *); omega)
      | skip
    all_goals (constructor <;> first | trivial | rfl)
  obtain ⟨⟨v, H'⟩, h1, rfl, rfl⟩ := key
  rw [call_raw Tryz.prog cfg0 Tryz.func66 rfl ok_Grow rfl rfl, h1]
theorem cr_Grow0 : ∀ H, call Tryz.prog cfg0 0 66 [.v (.slice none 0 0), .v (.int .i64 0)] H = some (.v (.slice none 0 0), H) := by
  intro H
  have key : ∃ r, body Tryz.prog cfg0 66 Tryz.f66 [.v (.slice none 0 0), .v (.int .i64 0)] H = some r ∧ (r.1 = .v (.slice none 0 0) ∧ r.2 = H) := by
    refine body_wp (rs := [.tmp 4]) rfl rfl (R := fun x H' => x = .v (.slice none 0 0) ∧ H' = H) ?_
    have hp0 : ∀ b, cfg0.pol 66 b = 0 := fun b => rfl
    have w0 : IntKind.wrap .i64 (((0 : Nat) : Int) - ((0 : Nat) : Int)) = 0 := by decide
    have w1 : IntKind.wrap .i64 ((0 : Int) - 0) = 0 := by decide
    (have hF := an hp0 <| an w0 <| w1; have hc := trivial; repeat' (first | refine wK ?_ | refine wX ?_ | refine rR ?_ | refine rB ?_ ?_ <;> intro ht <;> try simp only [bbs] at ht | refine rG ?_ ?_ <;> intro hc | refine rZ ?_ | refine wQ ?_))
    all_goals first
      | (exfalso; (try simp only [bbs] at *); simp at *; done)
      | skip
    all_goals (constructor <;> first | trivial | rfl)
  obtain ⟨⟨v, H'⟩, h1, rfl, rfl⟩ := key
  rw [call_raw Tryz.prog cfg0 Tryz.func66 rfl ok_Grow rfl rfl, h1]
end
end Go.Proofs.YtnejoidfbgklbaaGreatDoor
namespace Go.Proofs.YtnejoidfbgklbaaGreatDoor
open Go Go.RowKit Go.Proofs.YtnejoidfbgklbaaGreatDoor.Eng
set_option linter.unusedSimpArgs false
set_option linter.unusedVariables false
set_option maxRecDepth 100000
set_option maxHeartbeats 4000000
noncomputable section
def encB (l : List Int) : List AV := [bytesL l]
theorem flat_take_len (ls : List (List Int)) (j : Nat) : ((ls.take j).flatten).length ≤ ls.flatten.length := by
  have e : ls.flatten = (ls.take j).flatten ++ (ls.drop j).flatten := by rw [← List.flatten_append, List.take_append_drop]
  rw [e, List.length_append]; omega
theorem flat_take_succ {ls : List (List Int)} {j : Nat} {l : List Int} (h : ls[j]? = some l) : (ls.take (j + 1)).flatten = (ls.take j).flatten ++ l := by
  rw [at_take h, List.flatten_append]; simp
theorem ok_iConcat : fnOk Tryz.prog cfg0 29 Tryz.f29 = true := by kernel_rfl
theorem pq_iConcat (ls : List (List Int)) (hn : ls.length ≤ 64) (hl : ls.flatten.length ≤ 1048576) : pure Tryz.prog cfg0 29 Tryz.f29 [.lst false (ls.map encB)] = some (bytesL ls.flatten, true) ∧ owned Tryz.prog cfg0 29 Tryz.f29 [.lst false (ls.map encB)] = some (bytesL ls.flatten) := by
  refine both_wp (rs := [.tmp 2]) rfl rfl ?_
  have hp0 : ∀ b, cfg0.pol 29 b = 0 := fun b => rfl
  (have hF := an hp0 <| @List.length_map.{0,0}; have hc := trivial; repeat' (first | refine wK ?_ | refine wX ?_ | refine rR ?_ | refine rB ?_ ?_ <;> intro ht <;> try simp only [bbs] at ht | refine rG ?_ ?_ <;> intro hc | refine rZ ?_ | refine wQ ?_))
  refine wLoop (fun k s => ∃ (j : Nat), j + k = ls.length ∧ s.1 0 = .lst false (ls.map encB) ∧ s.1 3 = .v (.int .i64 ((ls.take j).flatten.length : Nat)) ∧ s.1 9 = .lst false (ls.map encB) ∧ s.1 10 = .v (.int .i64 (ls.length : Nat)) ∧ s.1 11 = .v (.int .i64 (j : Nat)) ∧ (s.2 = Hp.nil)) (fun k s hI => ?_) (ls.length) _ ?_
  · obtain ⟨e, H⟩ := s
    obtain ⟨j, hj, h0, h3, h9, h10, h11, hh⟩ := hI
    simp only at h0 h3 h9 h10 h11 hh
    subst hh
    by_cases hlt : j < ls.length
    · obtain ⟨l, hg, hd, hm⟩ := at_drop hlt
      have hg' := map_at (f := encB) hg
      have hs := flat_take_succ hg
      have hle := flat_take_len ls (j + 1)
      have w1 : IntKind.wrap .i64 (((ls.take j).flatten.length : Nat) + (l.length : Nat) : Int) = ((ls.take (j + 1)).flatten.length : Nat) := by
        rw [hs, List.length_append] at *
        rw [wrap_i64 (by omega) (by omega)]; omega
      (have hF := an hp0 <| an h0 <| an h3 <| an h9 <| an h10 <| an h11 <| an hg' <| an encB.eq_def <| an w1 <| (wrap_succ (show j < 9223372036854775807 by omega)); have hc := trivial; repeat' (first | refine wK ?_ | refine wX ?_ | refine rR ?_ | refine rB ?_ ?_ <;> intro ht <;> try simp only [bbs] at ht | refine rG ?_ ?_ <;> intro hc | refine rZ ?_ | refine wQ ?_))
      all_goals first
        | (exfalso; (try simp only [bbs] at *); omega)
        | skip
      have hS := an h0 <| an h3 <| an h9 <| an h10 <| h11; refine ⟨_, Nat.sub_lt (by omega) Nat.one_pos, j + 1, by omega, sl, sl, sl, sl, sl, ?_⟩
      rfl
    · have hj' : j = ls.length := by omega
      rw [hj', List.take_length] at h3
      (have hF := an hp0 <| an h0 <| an h3 <| an h9 <| an h10 <| h11; have hc := trivial; repeat' (first | refine wK ?_ | refine wX ?_ | refine rR ?_ | refine rB ?_ ?_ <;> intro ht <;> try simp only [bbs] at ht | refine rG ?_ ?_ <;> intro hc | refine rZ ?_ | refine wQ ?_))
      all_goals first
        | (exfalso; (try simp only [bbs] at *); omega)
        | skip
      by_cases hz : ls.flatten.length = 0
      · have h3' := h3
        rw [hz] at h3'
        have h3z : e 3 = .v (.int .i64 0) := h3'
        (have hF := an hp0 <| an h0 <| an h3z <| an cr_Grow0 <| @List.length_map.{0,0}; have hc := trivial; repeat' (first | refine wK ?_ | refine wX ?_ | refine rR ?_ | refine rB ?_ ?_ <;> intro ht <;> try simp only [bbs] at ht | refine rG ?_ ?_ <;> intro hc | refine rZ ?_ | refine wQ ?_))
        refine wLoop (fun k s => ∃ (j : Nat), j + k = ls.length ∧ s.1 6 = .v (.slice none 0 0) ∧ s.1 25 = .lst false (ls.map encB) ∧ s.1 26 = .v (.int .i64 (ls.length : Nat)) ∧ s.1 27 = .v (.int .i64 (j : Nat)) ∧ (s.2 = Hp.nil)) (fun k s hI => ?_) (ls.length) _ ?_
        · obtain ⟨e, H⟩ := s
          obtain ⟨j, hj, h6, h25, h26, h27, hh⟩ := hI
          simp only at h6 h25 h26 h27 hh
          subst hh
          by_cases hlt : j < ls.length
          · obtain ⟨l, hg, hd, hm⟩ := at_drop hlt
            have hg' := map_at (f := encB) hg
            have hl0 : l = [] := by
              have h1 := flat_take_succ hg
              have h2 := flat_take_len ls (j + 1)
              rw [h1, List.length_append] at h2
              exact List.length_eq_zero_iff.1 (by omega)
            subst hl0
            have hap : aappend Tryz.prog Hp.nil [22, 22] (.v (.slice none 0 0)) (bytesL []) = some (.v (.slice none 0 0), Hp.nil) := by
              have hzz : zeroOf Tryz.prog 5 = some [cell 0] := zero5
              simp only [aappend, el22, hzz, by5, Option.bind_some, happ_b (isB_l []) int22, List.length_nil, if_true]
            (have hF := an hp0 <| an h6 <| an h25 <| an h26 <| an h27 <| an hg' <| an encB.eq_def <| an hap <| (wrap_succ (show j < 9223372036854775807 by omega)); have hc := trivial; repeat' (first | refine wK ?_ | refine wX ?_ | refine rR ?_ | refine rB ?_ ?_ <;> intro ht <;> try simp only [bbs] at ht | refine rG ?_ ?_ <;> intro hc | refine rZ ?_ | refine wQ ?_))
            all_goals first
              | (exfalso; (try simp only [bbs] at *); omega)
              | skip
            have hS := an h6 <| an h25 <| an h26 <| h27; refine ⟨_, Nat.sub_lt (by omega) Nat.one_pos, j + 1, by omega, sl, sl, sl, sl, ?_⟩
            rfl
          · (have hF := an hp0 <| an h6 <| an h25 <| an h26 <| h27; have hc := trivial; repeat' (first | refine wK ?_ | refine wX ?_ | refine rR ?_ | refine rB ?_ ?_ <;> intro ht <;> try simp only [bbs] at ht | refine rG ?_ ?_ <;> intro hc | refine rZ ?_ | refine wQ ?_))
            all_goals first
              | (exfalso; (try simp only [bbs] at *); omega)
              | skip
            have e0 : ls.flatten = [] := List.length_eq_zero_iff.1 hz
            rw [e0]
            exact gF_O (gF_nil 11 _)
        · refine ⟨0, by omega, rfl, rfl, rfl, rfl, ?_⟩
          rfl
      · (have hF := an hp0 <| an h0 <| an h3 <| an (cr_Grow ls.flatten.length (by omega) hl) <| @List.length_map.{0,0}; have hc := trivial; repeat' (first | refine wK ?_ | refine wX ?_ | refine rR ?_ | refine rB ?_ ?_ <;> intro ht <;> try simp only [bbs] at ht | refine rG ?_ ?_ <;> intro hc | refine rZ ?_ | refine wQ ?_))
        refine wLoop (fun k s => ∃ (j : Nat), j + k = ls.length ∧ s.1 6 = .sl 0 1 0 ((ls.take j).flatten).length ∧ s.1 25 = .lst false (ls.map encB) ∧ s.1 26 = .v (.int .i64 (ls.length : Nat)) ∧ s.1 27 = .v (.int .i64 (j : Nat)) ∧ (s.2.h 0 = some (((ls.take j).flatten ++ List.replicate (ls.flatten.length - ((ls.take j).flatten).length) 0).map cell))) (fun k s hI => ?_) (ls.length) _ ?_
        · obtain ⟨e, H⟩ := s
          obtain ⟨j, hj, h6, h25, h26, h27, hh⟩ := hI
          simp only at h6 h25 h26 h27 hh
          by_cases hlt : j < ls.length
          · obtain ⟨l, hg, hd, hm⟩ := at_drop hlt
            have hg' := map_at (f := encB) hg
            have hs := flat_take_succ hg
            have hle := flat_take_len ls (j + 1)
            have hle0 := flat_take_len ls j
            have hsl : ((ls.take (j + 1)).flatten).length = ((ls.take j).flatten).length + l.length := by rw [hs, List.length_append]
            have hap := app_room (P := Tryz.prog) el22 zero5 by5 int22 (isB_l l) ((ls.take j).flatten) (List.replicate (ls.flatten.length - ((ls.take j).flatten).length) 0) (by rw [List.length_replicate]; omega) (by rw [List.length_replicate]; omega) hh rfl
            rw [← hs] at hap
            (have hF := an hp0 <| an h6 <| an h25 <| an h26 <| an h27 <| an hg' <| an encB.eq_def <| an hap <| (wrap_succ (show j < 9223372036854775807 by omega)); have hc := trivial; repeat' (first | refine wK ?_ | refine wX ?_ | refine rR ?_ | refine rB ?_ ?_ <;> intro ht <;> try simp only [bbs] at ht | refine rG ?_ ?_ <;> intro hc | refine rZ ?_ | refine wQ ?_))
            all_goals first
              | (exfalso; (try simp only [bbs] at *); omega)
              | skip
            have hS := an h6 <| an h25 <| an h26 <| h27; refine ⟨_, Nat.sub_lt (by omega) Nat.one_pos, j + 1, by omega, sl, sl, sl, sl, ?_⟩
            simp only [Hp.set_h, if_true, List.drop_replicate, hsl, Nat.sub_sub]
          · have hj' : j = ls.length := by omega
            rw [hj', List.take_length] at h6 hh
            rw [Nat.sub_self, List.replicate_zero, List.append_nil] at hh
            (have hF := an hp0 <| an h6 <| an h25 <| an h26 <| h27; have hc := trivial; repeat' (first | refine wK ?_ | refine wX ?_ | refine rR ?_ | refine rB ?_ ?_ <;> intro ht <;> try simp only [bbs] at ht | refine rG ?_ ?_ <;> intro hc | refine rZ ?_ | refine wQ ?_))
            all_goals first
              | (exfalso; (try simp only [bbs] at *); omega)
              | skip
            exact gO_bytes hh
        · refine ⟨0, by omega, rfl, rfl, rfl, rfl, ?_⟩
          simp only [List.take_zero, List.flatten_nil, List.length_nil, Nat.sub_zero, List.nil_append, Hp.new_h, nil_g, if_true]
  · refine ⟨0, by omega, rfl, rfl, rfl, rfl, rfl, ?_⟩
    rfl
theorem p_iConcat (ls : List (List Int)) (hn : ls.length ≤ 64) (hl : ls.flatten.length ≤ 1048576) : pure Tryz.prog cfg0 29 Tryz.f29 [.lst false (ls.map encB)] = some (bytesL ls.flatten, true) := (pq_iConcat ls hn hl).1
end
end Go.Proofs.YtnejoidfbgklbaaGreatDoor
namespace Go.Proofs.YtnejoidfbgklbaaGreatDoor
open Go Go.RowKit Go.Proofs.YtnejoidfbgklbaaGreatDoor.Eng
set_option linter.unusedSimpArgs false
set_option linter.unusedVariables false
noncomputable section
/-- A sign of a label. -/
def lch (c : UInt8) : Bool := (decide (97 ≤ c.toNat) && decide (c.toNat ≤ 122)) || (decide (48 ≤ c.toNat) && decide (c.toNat ≤ 57)) || decide (c.toNat = 45)
def labelOk (s : ByteArray) : Bool := (decide (1 ≤ s.size) && decide (s.size ≤ 20)) && s.data.toList.all lch
/-- Bytes as numbers. -/
def nums (s : ByteArray) : List Int := s.data.toList.map fun b => (b.toNat : Int)
theorem nums_len (s : ByteArray) : (nums s).length = s.size := by
  show (List.map _ _).length = s.data.size
  simp
theorem nums_bytes (s : ByteArray) : Eng.Bytes (nums s) := fun z hz => by
  obtain ⟨b, -, rfl⟩ := List.mem_map.1 hz
  have := UInt8.toNat_lt b
  omega
theorem strOf_nums (s : ByteArray) : strOf (nums s) = s := by
  cases s with
  | mk a =>
    simp only [strOf, nums, List.map_map]
    congr 1
    have : (List.map ((fun z : Int => UInt8.ofNat z.toNat) ∘ fun b : UInt8 => (b.toNat : Int)) a.toList) = a.toList := by
      conv => rhs; rw [← List.map_id a.toList]
      apply List.map_congr_left
      intro b _
      simp
    rw [this]
/-- One label's bytes. -/
def lab1 (s : ByteArray) : List Int := (s.size : Int) % 256 :: nums s
def encN (ls : List ByteArray) : List Int := (ls.map lab1).flatten ++ [0]
def labsOk (ls : List ByteArray) : Prop := ls.length ≤ 6 ∧ ∀ s ∈ ls, labelOk s = true
theorem lab_size {s : ByteArray} (h : labelOk s = true) : 1 ≤ s.size ∧ s.size ≤ 20 := by
  simp only [labelOk, Bool.and_eq_true, decide_eq_true_eq] at h
  exact h.1
theorem lab1_len {s : ByteArray} : (lab1 s).length = s.size + 1 := by simp [lab1, nums_len]
theorem labs_len {ls : List ByteArray} (h : ∀ s ∈ ls, labelOk s = true) : ((ls.map lab1).flatten).length ≤ 21 * ls.length := by
  induction ls with
  | nil => simp
  | cons s r ih =>
    have h1 := lab_size (h s (by simp))
    have h2 := ih fun x hx => h x (by simp [hx])
    simp only [List.map_cons, List.flatten_cons, List.length_append, lab1_len, List.length_cons]
    omega
theorem encN_len {ls : List ByteArray} (h : labsOk ls) : (encN ls).length ≤ 127 := by
  have := labs_len h.2
  have := h.1
  simp only [encN, List.length_append, List.length_singleton]; omega
theorem lab1_bytes (s : ByteArray) : Eng.Bytes (lab1 s) := fun z hz => by
  simp only [lab1, List.mem_cons] at hz
  rcases hz with rfl | hz
  · omega
  · exact nums_bytes s z hz
theorem bytes_app {a b : List Int} (ha : Eng.Bytes a) (hb : Eng.Bytes b) : Eng.Bytes (a ++ b) := fun z hz => by
  rcases List.mem_append.1 hz with hz | hz
  · exact ha z hz
  · exact hb z hz
theorem encN_bytes (ls : List ByteArray) : Eng.Bytes (encN ls) := by
  refine bytes_app (fun z hz => ?_) (fun z hz => by simp at hz; omega)
  simp only [List.mem_flatten, List.mem_map] at hz
  obtain ⟨_, ⟨s, -, rfl⟩, hz⟩ := hz
  exact lab1_bytes s z hz
/-- A name that is read: code, labels, the place behind. -/
def nmR (l : List Int) : Nat → Nat → Nat → List ByteArray → Int → Int × List ByteArray × Int
  | 0, _, _, ls, nx => (9, ls, nx)
  | f + 1, p, j, ls, nx =>
    match l[p]? with
    | none => (5, ls, nx)
    | some c =>
      if c = 0 then (0, ls, if j = 0 then (p : Int) + 1 else nx)
      else if c ≤ 20 then
        if p + 1 + c.toNat ≤ l.length ∧ labelOk (strOf ((l.drop (p + 1)).take c.toNat)) = true then
          if ls.length = 6 then (2, ls, nx) else nmR l f (p + 1 + c.toNat) j (ls ++ [strOf ((l.drop (p + 1)).take c.toNat)]) nx
        else (5, ls, nx)
      else if 192 ≤ c then
        match l[p + 1]? with
        | none => (5, ls, nx)
        | some d => if (p : Int) ≤ (c - 192) * 256 + d ∨ 5 < j + 1 then (5, ls, nx) else nmR l f ((c - 192) * 256 + d).toNat (j + 1) ls (if j = 0 then (p : Int) + 2 else nx)
      else (5, ls, nx)
/-- Where the place behind stood at first does not matter. -/
theorem nm_indep (l : List Int) : ∀ (f p j : Nat) (ls : List ByteArray) (nx nx' : Int), (nmR l f p j ls nx).1 = (nmR l f p j ls nx').1 ∧ (nmR l f p j ls nx).2.1 = (nmR l f p j ls nx').2.1 ∧ (j = 0 → (nmR l f p j ls nx).1 = 0 → (nmR l f p j ls nx).2.2 = (nmR l f p j ls nx').2.2) := by
  intro f
  induction f with
  | zero => intro p j ls nx nx'; simp [nmR]
  | succ f ih =>
    intro p j ls nx nx'
    simp only [nmR]
    split
    · simp
    · rename_i c hc
      by_cases h0 : c = 0
      · simp only [if_pos h0]
        refine ⟨trivial, trivial, fun hj _ => ?_⟩
        simp [hj]
      · simp only [if_neg h0]
        by_cases h20 : c ≤ 20
        · simp only [if_pos h20]
          split
          · split
            · simp
            · exact ih _ _ _ _ _
          · simp
        · simp only [if_neg h20]
          split
          · split
            · simp
            · rename_i d hd
              split
              · simp
              · by_cases hj : j = 0
                · simp [hj]
                · simp only [if_neg hj]
                  have := ih ((c - 192) * 256 + d).toNat (j + 1) ls nx nx'
                  exact ⟨this.1, this.2.1, fun h => absurd h hj⟩
          · simp
theorem nm_ok (l : List Int) : ∀ (f p j : Nat) (ls : List ByteArray) (nx : Int), labsOk ls → (j ≠ 0 → 0 ≤ nx ∧ nx ≤ l.length) → (nmR l f p j ls nx).1 = 0 → labsOk (nmR l f p j ls nx).2.1 ∧ 0 ≤ (nmR l f p j ls nx).2.2 ∧ (nmR l f p j ls nx).2.2 ≤ l.length := by
  intro f
  induction f with
  | zero => intro p j ls nx _ _ h; simp [nmR] at h
  | succ f ih =>
    intro p j ls nx hls hnx
    simp only [nmR]
    split
    · simp
    · rename_i c hc
      have hlt := (List.getElem?_eq_some_iff.1 hc).1
      by_cases h0 : c = 0
      · simp only [if_pos h0]
        intro _
        refine ⟨hls, ?_⟩
        by_cases hj : j = 0
        · simp only [if_pos hj]; omega
        · simp only [if_neg hj]; exact hnx hj
      · simp only [if_neg h0]
        by_cases h20 : c ≤ 20
        · simp only [if_pos h20]
          split
          · rename_i hlab
            split
            · simp
            · rename_i h6
              refine ih _ _ _ _ ⟨?_, fun s hs => ?_⟩ hnx
              · have := hls.1
                simp only [List.length_append, List.length_singleton]; omega
              · rcases List.mem_append.1 hs with hs | hs
                · exact hls.2 s hs
                · simp only [List.mem_singleton] at hs; subst hs; exact hlab.2
          · simp
        · simp only [if_neg h20]
          split
          · split
            · simp
            · rename_i d hd
              have hlt2 := (List.getElem?_eq_some_iff.1 hd).1
              split
              · simp
              · refine ih _ _ _ _ hls fun _ => ?_
                by_cases hj : j = 0
                · simp only [if_pos hj]; omega
                · simp only [if_neg hj]; exact hnx hj
          · simp
theorem lab_ne {s : ByteArray} (h : labelOk s = true) : ¬ ((s.size : Int) % 256 = 0) ∧ (s.size : Int) % 256 ≤ 20 ∧ ((s.size : Int) % 256).toNat = s.size := by
  have := lab_size h
  omega
/-- What was written is read back. -/
theorem nm_enc : ∀ (ls ls0 : List ByteArray) (pre post : List Int) (f : Nat) (nx : Int), labsOk (ls0 ++ ls) → ls.length < f →
    nmR (pre ++ ((ls.map lab1).flatten ++ 0 :: post)) f pre.length 0 ls0 nx = (0, ls0 ++ ls, (pre.length : Int) + ((ls.map lab1).flatten.length : Int) + 1) := by
  intro ls
  induction ls with
  | nil =>
    intro ls0 pre post f nx hok hf
    obtain ⟨f, rfl⟩ : ∃ g, f = g + 1 := ⟨f - 1, by omega⟩
    simp [nmR]
  | cons s r ih =>
    intro ls0 pre post f nx hok hf
    obtain ⟨f, rfl⟩ : ∃ g, f = g + 1 := ⟨f - 1, by simp only [List.length_cons] at hf; omega⟩
    have hs := hok.2 s (by simp)
    obtain ⟨e1, e2, e3⟩ := lab_ne hs
    have hcat : pre ++ (((s :: r).map lab1).flatten ++ 0 :: post) = (pre ++ lab1 s) ++ ((r.map lab1).flatten ++ 0 :: post) := by simp [List.append_assoc]
    have hg : (pre ++ (((s :: r).map lab1).flatten ++ 0 :: post))[pre.length]? = some ((s.size : Int) % 256) := by
      rw [List.getElem?_append_right (Nat.le_refl _)]; simp [lab1]
    have hd : ((pre ++ (((s :: r).map lab1).flatten ++ 0 :: post)).drop (pre.length + 1)).take s.size = nums s := by
      rw [List.drop_append, List.drop_of_length_le (by omega), show pre.length + 1 - pre.length = 1 by omega, List.nil_append]
      simp only [List.map_cons, List.flatten_cons, lab1, List.cons_append, List.drop_succ_cons, List.drop_zero]
      rw [List.append_assoc, List.take_append_of_le_length (by rw [nums_len]; omega), List.take_of_length_le (by rw [nums_len]; omega)]
    have hl : pre.length + 1 + s.size ≤ (pre ++ (((s :: r).map lab1).flatten ++ 0 :: post)).length := by
      simp only [List.map_cons, List.flatten_cons, List.length_append, lab1_len]; omega
    have h6 : ¬ ls0.length = 6 := by have := hok.1; simp only [List.length_append, List.length_cons] at this; omega
    rw [nmR, hg]
    simp only
    rw [if_neg e1, if_pos e2, e3, hd, strOf_nums, if_pos ⟨hl, hs⟩, if_neg h6, hcat]
    have hlen : pre.length + 1 + s.size = (pre ++ lab1 s).length := by simp [lab1_len]; omega
    rw [hlen, ih (ls0 ++ [s]) (pre ++ lab1 s) post f nx (by simpa using hok) (by simp only [List.length_cons] at hf; omega)]
    simp [lab1_len]; omega
/-- A query in bytes. -/
def packB (i : Int) (ls : List ByteArray) (t : Int) : List Int := wordL i 2 ++ [1, 0, 0, 1, 0, 0, 0, 0, 0, 0] ++ encN ls ++ wordL t 2 ++ [0, 1]
def num2 (l : List Int) (p : Int) : Int := (readWord l p.toNat 2).2
/-- The query of some bytes. -/
def askF (l : List Int) : Option (Int × List ByteArray × Int) :=
  if (nmR l 12 12 0 [] 0).1 = 0 ∧ packB (num2 l 0) (nmR l 12 12 0 [] 0).2.1 (num2 l (nmR l 12 12 0 [] 0).2.2) = l then some (num2 l 0, (nmR l 12 12 0 [] 0).2.1, num2 l (nmR l 12 12 0 [] 0).2.2) else none
theorem pack_read {i t : Int} {ls : List ByteArray} (h : labsOk ls) : nmR (packB i ls t) 12 12 0 [] 0 = (0, ls, 12 + ((encN ls).length : Int)) ∧ (packB i ls t).length = 12 + (encN ls).length + 4 := by
  have e : packB i ls t = (wordL i 2 ++ [1, 0, 0, 1, 0, 0, 0, 0, 0, 0]) ++ ((ls.map lab1).flatten ++ 0 :: (wordL t 2 ++ [0, 1])) := by simp [packB, encN, List.append_assoc]
  have hl : (wordL i 2 ++ [1, 0, 0, 1, 0, 0, 0, 0, 0, 0]).length = 12 := by simp [wordL_len]
  constructor
  · have := nm_enc ls [] (wordL i 2 ++ [1, 0, 0, 1, 0, 0, 0, 0, 0, 0]) (wordL t 2 ++ [0, 1]) 12 0 (by simpa using h) (by have := h.1; omega)
    rw [hl] at this
    rw [e, this]
    simp [encN]; omega
  · simp [packB, wordL_len]; omega
/-- Where the bytes are a query's, the place behind the name is four ahead of the end. -/
theorem ask_end {l : List Int} {i t : Int} (h0 : (nmR l 12 12 0 [] 0).1 = 0) (hp : packB i (nmR l 12 12 0 [] 0).2.1 t = l) : (nmR l 12 12 0 [] 0).2.2 + 4 = l.length := by
  have hk := (nm_ok l 12 12 0 [] 0 ⟨by simp, by simp⟩ (by simp) h0).1
  obtain ⟨h1, h2⟩ := pack_read (i := i) (t := t) hk
  rw [hp] at h1 h2
  rw [h1]
  simp only
  have e : (nmR l 12 12 0 [] 0).2.1 = (nmR l 12 12 0 [] 0).2.1 := rfl
  omega
end
end Go.Proofs.YtnejoidfbgklbaaGreatDoor
namespace Go.Proofs.YtnejoidfbgklbaaGreatDoor
open Go Go.RowKit Go.Proofs.YtnejoidfbgklbaaGreatDoor.Eng
set_option linter.unusedSimpArgs false
set_option linter.unusedVariables false
set_option maxRecDepth 100000
set_option maxHeartbeats 1000000
noncomputable section
theorem dz_rows : ∀ (ps : List (AV × List Int)), (∀ p ∈ ps, Dz 11 p.1 (bytesL p.2)) → (∀ H, (ps.map fun p => [p.1]).mapM (fun (c : List AV) => c.mapM (deep H 11)) = some ((ps.map (·.2)).map encB)) ∧ (ps.map fun p => [p.1]).any (fun c => c.any (hasRefs 11)) = false := by
  intro ps
  induction ps with
  | nil => intro _; exact ⟨fun _ => rfl, rfl⟩
  | cons p r ih =>
    intro h
    obtain ⟨i1, i2⟩ := ih fun q hq => h q (by simp [hq])
    obtain ⟨d1, d2⟩ := h p (by simp)
    refine ⟨fun H => ?_, ?_⟩
    · have e : [p.1].mapM (deep H 11) = some [bytesL p.2] := mapM_c (d1 H) mapM_n
      simp only [List.map_cons, List.mapM_cons, e, i1 H, Option.bind_eq_bind, Option.bind_some, Option.pure_def]
      rfl
    · simp only [List.map_cons, List.any_cons, List.any_nil, d2, i2, Bool.or_false]
theorem dz_parts (ps : List (AV × List Int)) (h : ∀ p ∈ ps, Dz 11 p.1 (bytesL p.2)) : Dz 12 (.lst true (ps.map fun p => [p.1])) (.lst false ((ps.map (·.2)).map encB)) := by
  obtain ⟨h1, h2⟩ := dz_rows ps h
  refine ⟨fun H => ?_, h2⟩
  show (List.mapM (fun (c : List AV) => c.mapM (deep H 11)) _).map (AV.lst false) = _
  rw [h1 H]; rfl
theorem dzB {l : List Int} : Dz 11 (bytesL l) (bytesL l) := Fz.dz (bytesL_fz 9 l)
theorem dz2 {a b : Int} : Dz 11 (.lst true [[.v (.int .u8 a)], [.v (.int .u8 b)]]) (bytesL [a, b]) := ⟨fun H => rfl, rfl⟩
theorem dz4 {a b c d : Int} : Dz 11 (.lst true [[.v (.int .u8 a)], [.v (.int .u8 b)], [.v (.int .u8 c)], [.v (.int .u8 d)]]) (bytesL [a, b, c, d]) := ⟨fun H => rfl, rfl⟩
theorem cat_ps (ps : List (AV × List Int)) (h : ∀ p ∈ ps, Dz 11 p.1 (bytesL p.2)) (hn : ps.length ≤ 64) (hl : (ps.map (·.2)).flatten.length ≤ 1048576) (H : Hp) : call Tryz.prog cfg0 0 29 [.lst true (ps.map fun p => [p.1])] H = some (bytesL (ps.map (·.2)).flatten, H) := by
  have hz : Dzs depthD [.lst true (ps.map fun p => [p.1])] [.lst false ((ps.map (·.2)).map encB)] := Dzs.cons (dz_parts ps h) Dzs.nil
  have hp := p_iConcat (ps.map (·.2)) (by simpa using hn) hl
  exact call_dz Tryz.func29 rfl ok_iConcat rfl hz hp H
theorem ocat_ps (ps : List (AV × List Int)) (h : ∀ p ∈ ps, Dz 11 p.1 (bytesL p.2)) (hn : ps.length ≤ 64) (hl : (ps.map (·.2)).flatten.length ≤ 1048576) (hne : (ps.map (·.2)).flatten ≠ []) (H : Hp) : call Tryz.prog cfg0 1 29 [.lst true (ps.map fun p => [p.1])] H = some (.sl H.g 1 0 (ps.map (·.2)).flatten.length, H.new ((ps.map (·.2)).flatten.map cell)) := by
  have hp := (pq_iConcat (ps.map (·.2)) (by simpa using hn) hl).2
  rw [call_ofO Tryz.func29 rfl ok_iConcat rfl ((Dzs.cons (dz_parts ps h) Dzs.nil).1 H) hp]
  exact mat_bytes 10 _ hne H
theorem cat2 {x y : AV} {a b : List Int} (hx : Dz 11 x (bytesL a)) (hy : Dz 11 y (bytesL b)) (hl : a.length + b.length ≤ 1000000) : ∀ H, call Tryz.prog cfg0 0 29 [.lst true [[x], [y]]] H = some (bytesL (a ++ b), H) := fun H => by
  have := cat_ps [(x, a), (y, b)] (by simp [hx, hy]) (by simp) (by simp; omega) H
  simpa using this
theorem cat3 {x y z : AV} {a b c : List Int} (hx : Dz 11 x (bytesL a)) (hy : Dz 11 y (bytesL b)) (hz : Dz 11 z (bytesL c)) (hl : a.length + b.length + c.length ≤ 1000000) : ∀ H, call Tryz.prog cfg0 0 29 [.lst true [[x], [y], [z]]] H = some (bytesL (a ++ (b ++ c)), H) := fun H => by
  have := cat_ps [(x, a), (y, b), (z, c)] (by simp [hx, hy, hz]) (by simp) (by simp; omega) H
  simpa using this
theorem cat4 {x y z w : AV} {a b c d : List Int} (hx : Dz 11 x (bytesL a)) (hy : Dz 11 y (bytesL b)) (hz : Dz 11 z (bytesL c)) (hw : Dz 11 w (bytesL d)) (hl : a.length + b.length + c.length + d.length ≤ 1000000) : ∀ H, call Tryz.prog cfg0 0 29 [.lst true [[x], [y], [z], [w]]] H = some (bytesL (a ++ (b ++ (c ++ d))), H) := fun H => by
  have := cat_ps [(x, a), (y, b), (z, c), (w, d)] (by simp [hx, hy, hz, hw]) (by simp) (by simp; omega) H
  simpa using this
theorem ocat4 {x y z w : AV} {a b c d : List Int} (hx : Dz 11 x (bytesL a)) (hy : Dz 11 y (bytesL b)) (hz : Dz 11 z (bytesL c)) (hw : Dz 11 w (bytesL d)) (hl : a.length + b.length + c.length + d.length ≤ 1000000) (hne : b ≠ []) : ∀ H, call Tryz.prog cfg0 1 29 [.lst true [[x], [y], [z], [w]]] H = some (.sl H.g 1 0 (a ++ (b ++ (c ++ d))).length, H.new ((a ++ (b ++ (c ++ d))).map cell)) := fun H => by
  have := ocat_ps [(x, a), (y, b), (z, c), (w, d)] (by simp [hx, hy, hz, hw]) (by simp) (by simp; omega) (by simp [hne]) H
  simp only [List.map_cons, List.map_nil, List.flatten_cons, List.flatten_nil, List.append_nil] at this
  exact this
theorem cat5 {x y z w v : AV} {a b c d e : List Int} (hx : Dz 11 x (bytesL a)) (hy : Dz 11 y (bytesL b)) (hz : Dz 11 z (bytesL c)) (hw : Dz 11 w (bytesL d)) (hv : Dz 11 v (bytesL e)) (hl : a.length + b.length + c.length + d.length + e.length ≤ 1000000) : ∀ H, call Tryz.prog cfg0 0 29 [.lst true [[x], [y], [z], [w], [v]]] H = some (bytesL (a ++ (b ++ (c ++ (d ++ e)))), H) := fun H => by
  have := cat_ps [(x, a), (y, b), (z, c), (w, d), (v, e)] (by simp [hx, hy, hz, hw, hv]) (by simp) (by simp; omega) H
  simpa using this
/-- A record in bytes. -/
def recB (r : RecordM) : List Int := [192, 12, 0, r.Type_, 0, 1, 0, 0, 0, 30] ++ if r.Type_ = 1 then [0, 4, 10, 0, 0, r.Node] else [0, 10, 0, 0, 0, 0] ++ (wordL r.Port 2 ++ [2, 110, 48 + r.Node, 0])
def recOk (r : RecordM) : Prop := (r.Type_ = 1 ∨ r.Type_ = 33) ∧ (0 ≤ r.Node ∧ r.Node ≤ 3) ∧ (0 ≤ r.Port ∧ r.Port ≤ 65535)
theorem recB_len {r : RecordM} : (recB r).length = if r.Type_ = 1 then 16 else 22 := by
  unfold recB; split <;> simp [wordL_len]
/-- An answer in bytes. -/
def ansB (i : List Int) (st : Int) (cut : Bool) (q : List Int) (rs : List RecordM) : List Int :=
  i ++ ([if cut = true then 134 else 132, st % 256] ++ ([0, if st = 1 then 0 else 1] ++ wordL rs.length 2 ++ [0, 0, 0, 0] ++ (q ++ (rs.map recB).flatten)))
end
end Go.Proofs.YtnejoidfbgklbaaGreatDoor
namespace Go.Proofs.YtnejoidfbgklbaaGreatDoor
open Go Go.RowKit Go.Proofs.YtnejoidfbgklbaaGreatDoor.Eng
set_option linter.unusedSimpArgs false
set_option linter.unusedVariables false
set_option maxRecDepth 100000
set_option maxHeartbeats 1000000
noncomputable section
theorem all_at {l : List UInt8} {j : Nat} {b : UInt8} (h : ∀ c ∈ l.take j, lch c = true) (hg : l[j]? = some b) (hb : lch b = true) : ∀ c ∈ l.take (j + 1), lch c = true := by
  intro c hc
  rw [List.take_add_one, hg] at hc
  rcases List.mem_append.1 hc with hc | hc
  · exact h c hc
  · simp only [Option.toList_some, List.mem_singleton] at hc; subst hc; exact hb
theorem lab_no {s : ByteArray} {j : Nat} {b : UInt8} (hg : s.data.toList[j]? = some b) (hb : lch b = false) : labelOk s = false := by
  unfold labelOk
  have : s.data.toList.all lch = false := by
    rw [List.all_eq_false]
    exact ⟨b, List.mem_of_getElem? hg, by simp [hb]⟩
  rw [this, Bool.and_false]
theorem lab_all {s : ByteArray} (h : ∀ c ∈ s.data.toList, lch c = true) : labelOk s = inB (s.size : Int) 1 20 := by
  unfold labelOk inB
  rw [List.all_eq_true.2 h, Bool.and_true]
  congr 1 <;> (apply decide_eq_decide.2; omega)
theorem lch_eq (b : UInt8) : lch b = true ↔ ((97 ≤ ((b.toNat : Nat) : Int) ∧ ((b.toNat : Nat) : Int) ≤ 122) ∨ (48 ≤ ((b.toNat : Nat) : Int) ∧ ((b.toNat : Nat) : Int) ≤ 57)) ∨ ((b.toNat : Nat) : Int) = 45 := by
  simp only [lch, Bool.or_eq_true, Bool.and_eq_true, decide_eq_true_eq]
  omega
theorem ok_iisLabel : fnOk Tryz.prog cfg0 65 Tryz.f65 = true := by kernel_rfl
theorem p_iisLabel (w : ByteArray) (hs : w.size ≤ 1048576) : pure Tryz.prog cfg0 65 Tryz.f65 [.v (.string w)] = some (.v (.bool (labelOk w)), true) := by
  refine pure_wp (rs := [.tmp 2]) rfl rfl ?_
  have hp0 : ∀ b, cfg0.pol 65 b = 0 := fun b => rfl
  (have hF := hp0; have hc := trivial; repeat' (first | refine wK ?_ | refine wX ?_ | refine rR ?_ | refine rB ?_ ?_ <;> intro ht <;> try simp only [bbs] at ht | refine rG ?_ ?_ <;> intro hc | refine rZ ?_ | refine wQ ?_))
  refine wLoop (fun k s => ∃ (j : Nat), j + k = w.size ∧ s.1 0 = .v (.string w) ∧ s.1 6 = .v (.int .i64 (w.size : Nat)) ∧ s.1 7 = .v (.int .i64 (j : Nat)) ∧ (∀ c ∈ w.data.toList.take j, lch c = true)) (fun k s hI => ?_) (w.size) _ ?_
  · obtain ⟨e, H⟩ := s
    obtain ⟨j, hj, h0, h6, h7, hz⟩ := hI
    simp only at h0 h6 h7 hz
    have hsz : w.data.toList.length = w.size := by simp [ByteArray.size_data]
    by_cases hlt : j < w.size
    · have hltI : ((j : Nat) : Int) < (w.size : Int) := by omega
      obtain ⟨b, hg, -, -⟩ := at_drop (l := w.data.toList) (j := j) (by omega)
      have w1 : IntKind.wrap .i64 (((j : Nat) : Int) + 1) = ((j + 1 : Nat) : Int) := wrap_succ (by omega)
      have hb := UInt8.toNat_lt b
      cases hl : lch b with
      | true =>
        have hc1 := (lch_eq b).1 hl
        (have hF := an hp0 <| an h0 <| an h6 <| an h7 <| an hltI <| an hg <| w1; have hc := trivial; repeat' (first | refine wK ?_ | refine wX ?_ | refine rR ?_ | refine rB ?_ ?_ <;> intro ht <;> try simp only [bbs] at ht | refine rG ?_ ?_ <;> intro hc | refine rZ ?_ | refine wQ ?_))
        all_goals first
          | (exfalso; (try simp only [bbs] at *); omega)
          | skip
        all_goals (have hS := an h0 <| an h6 <| h7; refine ⟨_, Nat.sub_lt (by omega) Nat.one_pos, j + 1, by omega, sl, sl, sl, ?_⟩; exact all_at hz hg hl)
      | false =>
        have hc1 : ¬ _ := fun h => absurd ((lch_eq b).2 h) (by simp [hl])
        rw [lab_no hg hl]
        (have hF := an hp0 <| an h0 <| an h6 <| an h7 <| an hltI <| an hg <| w1; have hc := trivial; repeat' (first | refine wK ?_ | refine wX ?_ | refine rR ?_ | refine rB ?_ ?_ <;> intro ht <;> try simp only [bbs] at ht | refine rG ?_ ?_ <;> intro hc | refine rZ ?_ | refine wQ ?_))
        all_goals first
          | (exfalso; (try simp only [bbs] at *); omega)
          | exact gives_boolv rfl
    · have hltI : ¬ ((j : Nat) : Int) < (w.size : Int) := by omega
      have hall : ∀ c ∈ w.data.toList, lch c = true := by rw [← List.take_of_length_le (l := w.data.toList) (i := j) (by omega)]; exact hz
      rw [lab_all hall]
      (have hF := an hp0 <| an h0 <| an h6 <| an h7 <| an hltI <| c_iin; have hc := trivial; repeat' (first | refine wK ?_ | refine wX ?_ | refine rR ?_ | refine rB ?_ ?_ <;> intro ht <;> try simp only [bbs] at ht | refine rG ?_ ?_ <;> intro hc | refine rZ ?_ | refine wQ ?_))
      all_goals try exact False.elim kk
      all_goals exact gives_boolv rfl
  · refine ⟨0, by omega, rfl, rfl, rfl, ?_⟩
    simp
theorem c_iisLabel (w : ByteArray) (hs : w.size ≤ 1048576) : ∀ H, call Tryz.prog cfg0 0 65 [.v (.string w)] H = some (.v (.bool (labelOk w)), H) :=
  call_fz Tryz.func65 rfl ok_iisLabel rfl (by simp only [fz_cons, fz_nil, go_sem, and_self]) (p_iisLabel w hs)

theorem ok_sl10Label : fnOk Tryz.prog cfg0 74 Tryz.f74 = true := by kernel_rfl
theorem p_sl10Label (w : ByteArray) (hs : w.size ≤ 1048576) : pure Tryz.prog cfg0 74 Tryz.f74 [.v (.string w)] = some (.v (.bool (labelOk w)), true) := by
  refine pure_wp (rs := [.tmp 2]) rfl rfl ?_
  have hp0 : ∀ b, cfg0.pol 74 b = 0 := fun b => rfl
  have hsz : w.data.toList.length = w.size := by simp [ByteArray.size_data]
  by_cases hin : 1 ≤ w.size ∧ w.size ≤ 20
  rotate_left
  · have e : labelOk w = false := by
      unfold labelOk
      rw [show (decide (1 ≤ w.size) && decide (w.size ≤ 20)) = false by rw [← Bool.not_eq_true]; simp only [Bool.and_eq_true, decide_eq_true_eq]; exact hin, Bool.false_and]
    rw [e]
    by_cases h1 : ((w.size : Nat) : Int) < 1
    · (have hF := an hp0 <| h1; have hc := trivial; repeat' (first | refine wK ?_ | refine wX ?_ | refine rR ?_ | refine rB ?_ ?_ <;> intro ht <;> try simp only [bbs] at ht | refine rG ?_ ?_ <;> intro hc | refine rZ ?_ | refine wQ ?_))
      all_goals try exact False.elim kk
      all_goals exact gives_boolv rfl
    · have h2 : 20 < ((w.size : Nat) : Int) := by omega
      (have hF := an hp0 <| an h1 <| h2; have hc := trivial; repeat' (first | refine wK ?_ | refine wX ?_ | refine rR ?_ | refine rB ?_ ?_ <;> intro ht <;> try simp only [bbs] at ht | refine rG ?_ ?_ <;> intro hc | refine rZ ?_ | refine wQ ?_))
      all_goals try exact False.elim kk
      all_goals exact gives_boolv rfl
  have i1 : ¬ ((w.size : Nat) : Int) < 1 := by omega
  have i2 : ¬ 20 < ((w.size : Nat) : Int) := by omega
  (have hF := an hp0 <| an i1 <| i2; have hc := trivial; repeat' (first | refine wK ?_ | refine wX ?_ | refine rR ?_ | refine rB ?_ ?_ <;> intro ht <;> try simp only [bbs] at ht | refine rG ?_ ?_ <;> intro hc | refine rZ ?_ | refine wQ ?_))
  all_goals try exact False.elim kk
  refine wLoop (fun k s => ∃ (j : Nat), j + k = w.size ∧ s.1 0 = .v (.string w) ∧ s.1 3 = .v (.int .i64 (j : Nat)) ∧ (∀ c ∈ w.data.toList.take j, lch c = true)) (fun k s hI => ?_) (w.size) _ ?_
  · obtain ⟨e, H⟩ := s
    obtain ⟨j, hj, h0, h3, hz⟩ := hI
    simp only at h0 h3 hz
    by_cases hlt : j < w.size
    · have hltI : ((j : Nat) : Int) < (w.size : Int) := by omega
      obtain ⟨b, hg, -, -⟩ := at_drop (l := w.data.toList) (j := j) (by omega)
      have w1 : IntKind.wrap .i64 (((j : Nat) : Int) + 1) = ((j + 1 : Nat) : Int) := wrap_succ (by omega)
      have hb := UInt8.toNat_lt b
      cases hl : lch b with
      | true =>
        have hc1 := (lch_eq b).1 hl
        (have hF := an hp0 <| an h0 <| an h3 <| an hltI <| an hg <| w1; have hc := trivial; repeat' (first | refine wK ?_ | refine wX ?_ | refine rR ?_ | refine rB ?_ ?_ <;> intro ht <;> try simp only [bbs] at ht | refine rG ?_ ?_ <;> intro hc | refine rZ ?_ | refine wQ ?_))
        all_goals first
          | (exfalso; (try simp only [bbs] at *); omega)
          | skip
        all_goals (have hS := an h0 <| h3; refine ⟨_, Nat.sub_lt (by omega) Nat.one_pos, j + 1, by omega, sl, sl, ?_⟩; exact all_at hz hg hl)
      | false =>
        have hc1 : ¬ _ := fun h => absurd ((lch_eq b).2 h) (by simp [hl])
        rw [lab_no hg hl]
        (have hF := an hp0 <| an h0 <| an h3 <| an hltI <| an hg <| w1; have hc := trivial; repeat' (first | refine wK ?_ | refine wX ?_ | refine rR ?_ | refine rB ?_ ?_ <;> intro ht <;> try simp only [bbs] at ht | refine rG ?_ ?_ <;> intro hc | refine rZ ?_ | refine wQ ?_))
        all_goals first
          | (exfalso; (try simp only [bbs] at *); omega)
          | exact gives_boolv rfl
    · have hltI : ¬ ((j : Nat) : Int) < (w.size : Int) := by omega
      have hall : ∀ c ∈ w.data.toList, lch c = true := by rw [← List.take_of_length_le (l := w.data.toList) (i := j) (by omega)]; exact hz
      have hT : labelOk w = true := by rw [lab_all hall]; exact inB_t.2 (by omega)
      rw [hT]
      (have hF := an hp0 <| an h0 <| an h3 <| hltI; have hc := trivial; repeat' (first | refine wK ?_ | refine wX ?_ | refine rR ?_ | refine rB ?_ ?_ <;> intro ht <;> try simp only [bbs] at ht | refine rG ?_ ?_ <;> intro hc | refine rZ ?_ | refine wQ ?_))
      all_goals try exact False.elim kk
      all_goals exact gives_boolv rfl
  · refine ⟨0, by omega, rfl, rfl, ?_⟩
    simp
theorem c_sl10Label (w : ByteArray) (hs : w.size ≤ 1048576) : ∀ H, call Tryz.prog cfg0 0 74 [.v (.string w)] H = some (.v (.bool (labelOk w)), H) :=
  call_fz Tryz.func74 rfl ok_sl10Label rfl (by simp only [fz_cons, fz_nil, go_sem, and_self]) (p_sl10Label w hs)

end
end Go.Proofs.YtnejoidfbgklbaaGreatDoor
namespace Go.Proofs.YtnejoidfbgklbaaGreatDoor
open Go Go.RowKit Go.Proofs.YtnejoidfbgklbaaGreatDoor.Eng
set_option linter.unusedSimpArgs false
set_option linter.unusedVariables false
set_option maxRecDepth 100000
set_option maxHeartbeats 2000000
noncomputable section
theorem byteCells_nums (s : ByteArray) : AV.lst false (byteCells s) = bytesL (nums s) := by simp [byteCells, bytesL, nums, cell, List.map_map, Function.comp_def]
theorem conv_sb (s : ByteArray) (H : Hp) : aconv Tryz.prog H 9 22 (.v (.string s)) = some (bytesL (nums s)) := by
  simp only [aconv, u9, u22, u5, byteCells_nums]
theorem afirst_str (H : Hp) (s : ByteArray) : afirst H 1 s.size (.v (.string s)) = some ((nums s).map cell) := by
  have hsz : s.data.toList.length = s.size := by simp [ByteArray.size_data]
  simp only [afirst, Nat.le_refl, and_self, if_true]
  rw [List.take_of_length_le (by omega)]
  simp [nums, cell, List.map_map, Function.comp_def]
def labsL (ls : List ByteArray) (j : Nat) : List Int := ((ls.take j).map lab1).flatten
theorem labsL_succ {ls : List ByteArray} {j : Nat} {s : ByteArray} (h : ls[j]? = some s) : labsL ls (j + 1) = labsL ls j ++ ([(s.size : Int) % 256] ++ nums s) := by
  unfold labsL
  rw [List.take_add_one, h]
  simp [lab1]
theorem labsL_len {ls : List ByteArray} (h : labsOk ls) (j : Nat) : (labsL ls j).length ≤ 126 := by
  have h1 := labs_len (ls := ls.take j) fun s hs => h.2 s (List.mem_of_mem_take hs)
  have h2 := h.1
  have h3 : (ls.take j).length ≤ ls.length := by rw [List.length_take]; omega
  unfold labsL; omega
theorem labsL_all (ls : List ByteArray) : labsL ls ls.length ++ [0] = encN ls := by unfold labsL encN; rw [List.take_length]
theorem conv_si (n : Int) (H : Hp) : aconv Tryz.prog H 3 5 (.v (.int .i64 n)) = some (.v (.int .u8 (n % 256))) := by simp only [aconv, u3, u5, wrap8]
theorem gO_res {H : Hp} {x : AV} {n : Nat} {c : Int} {l : List Int} (h : RAcc H x 1 (l.map cell) n) : GivesO (.agg [.v (.int .i64 c), bytesL l]) (.agg [.v (.int .i64 c), x]) H := by
  have hF : GivesF 11 (bytesL l) x H := by
    have hn : n = l.length := by have := h.1; simpa using this.symm
    subst hn
    rcases h.2 with ⟨h0, e⟩ | ⟨b, -, rfl, hb⟩
    · have e0 : l = [] := List.length_eq_zero_iff.1 h0
      subst e0
      rcases e with rfl | rfl
      · exact gF_lstT 10 H
      · exact gF_nil 10 H
    · exact gF_bytes (n := 9) hb rfl
  refine gF_O (gF_agg (n := 10) hF [.v (.int .i64 c)] ?_)
  intro z hz
  simp only [List.mem_cons, List.not_mem_nil, or_false] at hz
  rcases hz with rfl; exact ⟨_, rfl, plain_int _ _⟩
theorem ok_iEncodeName : fnOk Tryz.prog cfg0 28 Tryz.f28 = true := by kernel_rfl
theorem pq_iEncodeName (ls : List ByteArray) (hk : labsOk ls) : pure Tryz.prog cfg0 28 Tryz.f28 [textsL ls] = some (.agg [.v (.int .i64 0), bytesL (encN ls)], true) ∧ owned Tryz.prog cfg0 28 Tryz.f28 [textsL ls] = some (.agg [.v (.int .i64 0), bytesL (encN ls)]) := by
  refine both_wp (rs := [.cell 2 29]) rfl rfl ?_
  have hp0 : ∀ b, cfg0.pol 28 b = 0 := fun b => rfl
  have h6 : ¬ 6 < ((ls.length : Nat) : Int) := by have := hk.1; omega
  (have hF := an hp0 <| an textsL.eq_def <| an @List.length_map.{0,0} <| h6; have hc := trivial; repeat' (first | refine wK ?_ | refine wX ?_ | refine rR ?_ | refine rB ?_ ?_ <;> intro ht <;> try simp only [bbs] at ht | refine rG ?_ ?_ <;> intro hc | refine rZ ?_ | refine wQ ?_))
  all_goals try exact False.elim kk
  refine wLoop (fun k s => ∃ (j : Nat) (x : AV), j + k = ls.length ∧ s.1 2 = .ptr 0 0 ∧ s.1 3 = x ∧ s.1 10 = textsL ls ∧ s.1 11 = .v (.int .i64 (ls.length : Nat)) ∧ s.1 12 = .v (.int .i64 (j : Nat)) ∧ (RAcc s.2 x 1 ((labsL ls j).map cell) (labsL ls j).length) ∧ (s.2.h 0 = some [.v (.int .i64 0), .v (.slice none 0 0)] ∧ 0 < s.2.g) ∧ (Off 0 x)) (fun k s hI => ?_) (ls.length) _ ?_
  · obtain ⟨e, H⟩ := s
    obtain ⟨j, x, hj, h2, h3, h10, h11, h12, hr, hb, hoff⟩ := hI
    simp only at h2 h3 h10 h11 h12 hr hb hoff
    obtain ⟨hb0, hgg⟩ := hb
    have hll := labsL_len hk j
    have h6l := hk.1
    by_cases hlt : j < ls.length
    · have hltI : ((j : Nat) : Int) < (ls.length : Int) := by omega
      obtain ⟨s, hg, -, hm⟩ := at_drop hlt
      have hg' := get_text hg
      have hlab := hk.2 s hm
      have hs := lab_size hlab
      have w1 : IntKind.wrap .i64 (((j : Nat) : Int) + 1) = ((j + 1 : Nat) : Int) := wrap_succ (by omega)
      have hnl := nums_len s
      have cl := c_iisLabel s (by omega)
      (have hF := an hp0 <| an h10 <| an h11 <| an h12 <| an hltI <| an textsL.eq_def <| an @List.length_map.{0,0} <| an hg' <| an cl <| hlab; have hc := trivial; repeat' ((fail_if_success (first | refine wAt 9 ?_ | refine wAtL 9 ?_)); first | refine wK ?_ | refine wX ?_ | refine rR ?_ | refine rB ?_ ?_ <;> intro ht <;> try simp only [bbs] at ht | refine rG ?_ ?_ <;> intro hc | refine rZ ?_ | refine wQ ?_))
      all_goals try exact False.elim kk
      have hF := an hp0 <| an h3 <| conv_si; have hc := trivial; (try refine wX ?_); refine rN (fun xx hx => ?_); generalize hq : aappend Tryz.prog _ _ _ _ = q at hx
      obtain ⟨x1, K1, rfl, hac1, hg1, hk1, ho1⟩ := app_rows hq el22 zero5 by5 int22 (sz := 1) rfl (by omega) hr (m := 1) rfl (afirst_one _ _ [cell ((s.size : Int) % 256)]) rfl (by omega) (by omega)
      clear hq
      have k0 := (hk1 0 hgg hoff).trans hb0
      have o0 := ho1 0 hgg hoff
      subst hx; have hF := an hp0 <| conv_sb; have hc := trivial; refine rN (fun xx hx => ?_); generalize hq : aappend Tryz.prog _ _ _ _ = q at hx
      obtain ⟨x2, K2, rfl, hac2, hg2, hk2, ho2⟩ := app_rows hq el22 zero5 by5 int9 (sz := 1) rfl (by omega) hac1 (show alen (.v (.string s)) = some s.size from rfl) (afirst_str _ s) (by simp [hnl]) (by omega) (by omega)
      clear hq
      have k1 := (hk2 0 (by omega) o0).trans k0
      have o1 := ho2 0 (by omega) o0
      (subst hx; have hF := hp0; have hc := trivial; repeat' (first | refine rR ?_ | refine rG ?_ ?_ <;> intro hc | refine rZ ?_ | fail))
      (have hF := an hp0 <| an h12 <| w1; have hc := trivial; repeat' (first | refine wK ?_ | refine wX ?_ | refine rR ?_ | refine rB ?_ ?_ <;> intro ht <;> try simp only [bbs] at ht | refine rG ?_ ?_ <;> intro hc | refine rZ ?_ | refine wQ ?_))
      all_goals try exact False.elim kk
      have hS := an h2 <| an h3 <| an h10 <| an h11 <| h12; refine ⟨_, Nat.sub_lt (by omega) Nat.one_pos, j + 1, x2, by omega, sl, sl, sl, sl, sl, ?_⟩
      refine ⟨?_, ⟨k1, show 0 < K2.g by omega⟩, o1⟩
      rw [labsL_succ hg]
      simpa [Nat.add_assoc, Nat.add_comm, Nat.add_left_comm, hnl] using hac2
    · have hltI : ¬ ((j : Nat) : Int) < (ls.length : Int) := by omega
      have hj : j = ls.length := by omega
      subst hj
      (have hF := an hp0 <| an h10 <| an h11 <| an h12 <| an hltI <| an textsL.eq_def <| @List.length_map.{0,0}; have hc := trivial; repeat' ((fail_if_success (first | refine wAt 11 ?_ | refine wAtL 11 ?_)); first | refine wK ?_ | refine wX ?_ | refine rR ?_ | refine rB ?_ ?_ <;> intro ht <;> try simp only [bbs] at ht | refine rG ?_ ?_ <;> intro hc | refine rZ ?_ | refine wQ ?_))
      all_goals try exact False.elim kk
      have hF := an hp0 <| h3; have hc := trivial; (try refine wX ?_); refine rN (fun xx hx => ?_); generalize hq : aappend Tryz.prog _ _ _ _ = q at hx
      obtain ⟨x1, K1, rfl, hac1, hg1, hk1, ho1⟩ := app_rows hq el22 zero5 by5 int22 (sz := 1) rfl (by omega) hr (m := 1) rfl (afirst_one _ _ [cell 0]) rfl (by omega) (by omega)
      clear hq
      have k0 := (hk1 0 hgg hoff).trans hb0
      have o0 := ho1 0 hgg hoff
      have xok := hac1.one
      (subst hx; have hF := an hp0 <| an h2 <| an k0 <| an xok.1 <| xok.2; have hc := trivial; repeat' (first | refine rR ?_ | refine rG ?_ ?_ <;> intro hc | refine rZ ?_ | fail))
      (have hF := an hp0 <| h2; have hc := trivial; repeat' (first | refine wK ?_ | refine wX ?_ | refine rR ?_ | refine rB ?_ ?_ <;> intro ht <;> try simp only [bbs] at ht | refine rG ?_ ?_ <;> intro hc | refine rZ ?_ | refine wQ ?_))
      all_goals try exact False.elim kk
      rw [← labsL_all]
      have := hac1.setOff o0 [.v (.int .i64 0), x1]
      exact gO_res (l := labsL ls ls.length ++ [0]) (by rw [List.map_append]; exact this)
  · refine ⟨0, .v (.slice none 0 0), by omega, rfl, rfl, rfl, rfl, rfl, ?_⟩
    exact ⟨RAcc.nil, ⟨rfl, by simp⟩, off_nil⟩
theorem p_iEncodeName (ls : List ByteArray) (hk : labsOk ls) : pure Tryz.prog cfg0 28 Tryz.f28 [textsL ls] = some (.agg [.v (.int .i64 0), bytesL (encN ls)], true) := (pq_iEncodeName ls hk).1
theorem c_iEncodeName (ls : List ByteArray) (hk : labsOk ls) : ∀ H, call Tryz.prog cfg0 0 28 [textsL ls] H = some (.agg [.v (.int .i64 0), bytesL (encN ls)], H) :=
  call_fz Tryz.func28 rfl ok_iEncodeName rfl (by simp only [fz_cons, fz_nil, go_sem, and_self]) (pq_iEncodeName ls hk).1
end
end Go.Proofs.YtnejoidfbgklbaaGreatDoor
namespace Go.Proofs.YtnejoidfbgklbaaGreatDoor
open Go Go.RowKit Go.Proofs.YtnejoidfbgklbaaGreatDoor.Eng
set_option linter.unusedSimpArgs false
set_option linter.unusedVariables false
set_option maxRecDepth 100000
set_option maxHeartbeats 2000000
noncomputable section
theorem ok_sl10Name : fnOk Tryz.prog cfg0 69 Tryz.f69 = true := by kernel_rfl
theorem pq_sl10Name (ls : List ByteArray) (hk : labsOk ls) : pure Tryz.prog cfg0 69 Tryz.f69 [textsL ls] = some (bytesL (encN ls), true) ∧ owned Tryz.prog cfg0 69 Tryz.f69 [textsL ls] = some (bytesL (encN ls)) := by
  refine both_wp (rs := [.tmp 2]) rfl rfl ?_
  have hp0 : ∀ b, cfg0.pol 69 b = (if b = 23 then 3 else if b = 24 then 3 else if b = 25 then 3 else if b = 1000000 then 2 else 0) := fun b => rfl
  repeat' (first | ((first | refine wSeqr ?_ | refine wSeqrF ?_ | refine wIf ?_ | refine wReg ?_ | refine wRegF ?_ | (refine wRet ?_; (try simp only [thenQ, blockQ]); refine ends_by ?_)); intro xx hx; have hc := trivial; (repeat' (simp only [hc, Nat.reduceBEq, go_sem, Nat.reduceAdd, Nat.reduceMul, Nat.reduceSub, Nat.reduceEqDiff, Nat.reduceLT, Nat.reduceLeDiff, Int.reduceEq, Int.reduceLT, Int.reduceLE, reduceIte, aresults, aresult, hp0] at hx; (try ((first | rw [guardL_if] at hx | rw [guardF_if] at hx); split at hx <;> rename_i hc)))); all_goals (subst hx; first | (refine ⟨_, rfl, fun ht => ?_, fun ht => ?_⟩ <;> (try simp only [bbs] at ht)) | (refine ⟨_, rfl, ?_⟩; (try simp only [tupOf])))) | refine wSkip ?_ | (refine wExit ?_; simp only [thenQ, blockQ, reduceIte, Nat.reduceEqDiff]) | refine wSeq ?_ | refine wBlock ?_)
  refine wLoop (fun k s => ∃ (j : Nat) (x : AV), j + k = ls.length ∧ s.1 0 = textsL ls ∧ s.1 3 = x ∧ s.1 4 = .v (.int .i64 (j : Nat)) ∧ (RAcc s.2 x 1 ((labsL ls j).map cell) (labsL ls j).length)) (fun k s hI => ?_) (ls.length) _ ?_
  · obtain ⟨e, H⟩ := s
    obtain ⟨j, x, hj, h0, h3, h4, hr⟩ := hI
    simp only at h0 h3 h4 hr
    have hll := labsL_len hk j
    have h6l := hk.1
    by_cases hlt : j < ls.length
    · have hltI : ((j : Nat) : Int) < (ls.length : Int) := by omega
      obtain ⟨s, hg, -, hm⟩ := at_drop hlt
      have hg' := get_text hg
      have hs := lab_size (hk.2 s hm)
      have w1 : IntKind.wrap .i64 (((j : Nat) : Int) + 1) = ((j + 1 : Nat) : Int) := wrap_succ (by omega)
      have hnl := nums_len s
      repeat' ((fail_if_success (first | refine wAt 5 ?_)); first | ((first | refine wSeqr ?_ | refine wSeqrF ?_ | refine wIf ?_ | refine wReg ?_ | refine wRegF ?_ | (refine wRet ?_; (try simp only [thenQ, blockQ]); refine ends_by ?_)); intro xx hx; have hc := trivial; (repeat' (simp only [hc, Nat.reduceBEq, go_sem, Nat.reduceAdd, Nat.reduceMul, Nat.reduceSub, Nat.reduceEqDiff, Nat.reduceLT, Nat.reduceLeDiff, Int.reduceEq, Int.reduceLT, Int.reduceLE, reduceIte, aresults, aresult, hp0, h0, h4, hltI, textsL, List.length_map] at hx; (try ((first | rw [guardL_if] at hx | rw [guardF_if] at hx); split at hx <;> rename_i hc)))); all_goals (subst hx; first | (refine ⟨_, rfl, fun ht => ?_, fun ht => ?_⟩ <;> (try simp only [bbs] at ht)) | (refine ⟨_, rfl, ?_⟩; (try simp only [tupOf])))) | refine wSkip ?_ | (refine wExit ?_; simp only [thenQ, blockQ, reduceIte, Nat.reduceEqDiff]) | refine wSeq ?_ | refine wBlock ?_)
      all_goals try exact False.elim kk
      (first | refine wSeqr ?_ | refine wSeqrF ?_ | refine wReg ?_ | refine wRegF ?_); intro xx hx; have hc := trivial; (repeat' (simp only [hc, Nat.reduceBEq, go_sem, Nat.reduceAdd, Nat.reduceMul, Nat.reduceSub, Nat.reduceEqDiff, Nat.reduceLT, Nat.reduceLeDiff, Int.reduceEq, Int.reduceLT, Int.reduceLE, reduceIte, aresults, aresult, hp0, h0, h3, h4, textsL, hg', conv_si] at hx; (try ((first | rw [guardL_if] at hx | rw [guardF_if] at hx); split at hx <;> rename_i hc)))); generalize hq : aappend Tryz.prog _ _ _ _ = q at hx
      obtain ⟨x1, K1, rfl, hac1, hg1, hk1, ho1⟩ := app_rows hq el22 zero5 by5 int22 (sz := 1) rfl (by omega) hr (m := 1) rfl (afirst_one _ _ [cell ((s.size : Int) % 256)]) rfl (by omega) (by omega)
      clear hq
      have hc := trivial; (repeat' (simp only [hc, Nat.reduceBEq, go_sem, Nat.reduceAdd, Nat.reduceMul, Nat.reduceSub, Nat.reduceEqDiff, Nat.reduceLT, Nat.reduceLeDiff, Int.reduceEq, Int.reduceLT, Int.reduceLE, reduceIte, aresults, aresult, hp0, h0, h3, h4, textsL, hg', conv_sb] at hx; (try ((first | rw [guardL_if] at hx | rw [guardF_if] at hx); split at hx <;> rename_i hc)))); generalize hq : aappend Tryz.prog _ _ _ _ = q at hx
      obtain ⟨x2, K2, rfl, hac2, hg2, hk2, ho2⟩ := app_rows hq el22 zero5 by5 int22 (sz := 1) rfl (by omega) hac1 (alen_bytes _) (afirst_bytes _ _) (by simp) (by omega) (by omega)
      clear hq
      have hc := trivial; (repeat' (simp only [hc, Nat.reduceBEq, go_sem, Nat.reduceAdd, Nat.reduceMul, Nat.reduceSub, Nat.reduceEqDiff, Nat.reduceLT, Nat.reduceLeDiff, Int.reduceEq, Int.reduceLT, Int.reduceLE, reduceIte, aresults, aresult, hp0] at hx; (try ((first | rw [guardL_if] at hx | rw [guardF_if] at hx); split at hx <;> rename_i hc)))); all_goals (subst hx; refine ⟨_, rfl, ?_⟩)
      repeat' (first | ((first | refine wSeqr ?_ | refine wSeqrF ?_ | refine wIf ?_ | refine wReg ?_ | refine wRegF ?_ | (refine wRet ?_; (try simp only [thenQ, blockQ]); refine ends_by ?_)); intro xx hx; have hc := trivial; (repeat' (simp only [hc, Nat.reduceBEq, go_sem, Nat.reduceAdd, Nat.reduceMul, Nat.reduceSub, Nat.reduceEqDiff, Nat.reduceLT, Nat.reduceLeDiff, Int.reduceEq, Int.reduceLT, Int.reduceLE, reduceIte, aresults, aresult, hp0, h4, w1] at hx; (try ((first | rw [guardL_if] at hx | rw [guardF_if] at hx); split at hx <;> rename_i hc)))); all_goals (subst hx; first | (refine ⟨_, rfl, fun ht => ?_, fun ht => ?_⟩ <;> (try simp only [bbs] at ht)) | (refine ⟨_, rfl, ?_⟩; (try simp only [tupOf])))) | refine wSkip ?_ | (refine wExit ?_; simp only [thenQ, blockQ, reduceIte, Nat.reduceEqDiff]) | refine wSeq ?_ | refine wBlock ?_)
      all_goals try exact False.elim kk
      have hS := an h0 <| an h3 <| h4; refine ⟨_, Nat.sub_lt (by omega) Nat.one_pos, j + 1, x2, by omega, sl, sl, sl, ?_⟩
      rw [labsL_succ hg]
      simpa [Nat.add_assoc, Nat.add_comm, Nat.add_left_comm] using hac2
    · have hltI : ¬ ((j : Nat) : Int) < (ls.length : Int) := by omega
      have hj : j = ls.length := by omega
      subst hj
      repeat' ((fail_if_success (first | refine wAt 6 ?_)); first | ((first | refine wSeqr ?_ | refine wSeqrF ?_ | refine wIf ?_ | refine wReg ?_ | refine wRegF ?_ | (refine wRet ?_; (try simp only [thenQ, blockQ]); refine ends_by ?_)); intro xx hx; have hc := trivial; (repeat' (simp only [hc, Nat.reduceBEq, go_sem, Nat.reduceAdd, Nat.reduceMul, Nat.reduceSub, Nat.reduceEqDiff, Nat.reduceLT, Nat.reduceLeDiff, Int.reduceEq, Int.reduceLT, Int.reduceLE, reduceIte, aresults, aresult, hp0, h0, h4, hltI, textsL, List.length_map] at hx; (try ((first | rw [guardL_if] at hx | rw [guardF_if] at hx); split at hx <;> rename_i hc)))); all_goals (subst hx; first | (refine ⟨_, rfl, fun ht => ?_, fun ht => ?_⟩ <;> (try simp only [bbs] at ht)) | (refine ⟨_, rfl, ?_⟩; (try simp only [tupOf])))) | refine wSkip ?_ | (refine wExit ?_; simp only [thenQ, blockQ, reduceIte, Nat.reduceEqDiff]) | refine wSeq ?_ | refine wBlock ?_)
      all_goals try exact False.elim kk
      (first | refine wSeqr ?_ | refine wSeqrF ?_ | refine wReg ?_ | refine wRegF ?_); intro xx hx; have hc := trivial; (repeat' (simp only [hc, Nat.reduceBEq, go_sem, Nat.reduceAdd, Nat.reduceMul, Nat.reduceSub, Nat.reduceEqDiff, Nat.reduceLT, Nat.reduceLeDiff, Int.reduceEq, Int.reduceLT, Int.reduceLE, reduceIte, aresults, aresult, hp0, h3] at hx; (try ((first | rw [guardL_if] at hx | rw [guardF_if] at hx); split at hx <;> rename_i hc)))); generalize hq : aappend Tryz.prog _ _ _ _ = q at hx
      obtain ⟨x1, K1, rfl, hac1, hg1, hk1, ho1⟩ := app_rows hq el22 zero5 by5 int22 (sz := 1) rfl (by omega) hr (m := 1) rfl (afirst_one _ _ [cell 0]) rfl (by omega) (by omega)
      clear hq
      have hc := trivial; (repeat' (simp only [hc, Nat.reduceBEq, go_sem, Nat.reduceAdd, Nat.reduceMul, Nat.reduceSub, Nat.reduceEqDiff, Nat.reduceLT, Nat.reduceLeDiff, Int.reduceEq, Int.reduceLT, Int.reduceLE, reduceIte, aresults, aresult, hp0] at hx; (try ((first | rw [guardL_if] at hx | rw [guardF_if] at hx); split at hx <;> rename_i hc)))); all_goals (subst hx; refine ⟨_, rfl, ?_⟩)
      repeat' (first | ((first | refine wSeqr ?_ | refine wSeqrF ?_ | refine wIf ?_ | refine wReg ?_ | refine wRegF ?_ | (refine wRet ?_; (try simp only [thenQ, blockQ]); refine ends_by ?_)); intro xx hx; have hc := trivial; (repeat' (simp only [hc, Nat.reduceBEq, go_sem, Nat.reduceAdd, Nat.reduceMul, Nat.reduceSub, Nat.reduceEqDiff, Nat.reduceLT, Nat.reduceLeDiff, Int.reduceEq, Int.reduceLT, Int.reduceLE, reduceIte, aresults, aresult, hp0] at hx; (try ((first | rw [guardL_if] at hx | rw [guardF_if] at hx); split at hx <;> rename_i hc)))); all_goals (subst hx; first | (refine ⟨_, rfl, fun ht => ?_, fun ht => ?_⟩ <;> (try simp only [bbs] at ht)) | (refine ⟨_, rfl, ?_⟩; (try simp only [tupOf])))) | refine wSkip ?_ | (refine wExit ?_; simp only [thenQ, blockQ, reduceIte, Nat.reduceEqDiff]) | refine wSeq ?_ | refine wBlock ?_)
      rw [← labsL_all]
      exact gO_bytesR (l := labsL ls ls.length ++ [0]) (by rw [List.map_append]; exact hac1)
  · refine ⟨0, .lst true [], by omega, rfl, rfl, rfl, ?_⟩
    exact RAcc.lst
theorem p_sl10Name (ls : List ByteArray) (hk : labsOk ls) : pure Tryz.prog cfg0 69 Tryz.f69 [textsL ls] = some (bytesL (encN ls), true) := (pq_sl10Name ls hk).1
theorem c_sl10Name (ls : List ByteArray) (hk : labsOk ls) : ∀ H, call Tryz.prog cfg0 0 69 [textsL ls] H = some (bytesL (encN ls), H) :=
  call_fz Tryz.func69 rfl ok_sl10Name rfl (by simp only [fz_cons, fz_nil, go_sem, and_self]) (pq_sl10Name ls hk).1
end
end Go.Proofs.YtnejoidfbgklbaaGreatDoor
