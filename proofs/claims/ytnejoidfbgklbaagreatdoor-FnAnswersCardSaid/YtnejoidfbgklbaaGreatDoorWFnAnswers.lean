/- The law FnAnswers in the engine. -/
import Derived.Test.YtnejoidfbgklbaaGreatDoorZA
import Derived.Test.YtnejoidfbgklbaaGreatDoorZB
namespace Go.Proofs.YtnejoidfbgklbaaGreatDoor.fnAnswers
open Go Go.RowKit Go.Proofs.YtnejoidfbgklbaaGreatDoor.Eng
set_option linter.unusedSimpArgs false
set_option linter.unusedVariables false
set_option maxRecDepth 100000
set_option maxHeartbeats 4000000
noncomputable section
theorem conv_b (H : Hp) (l : List Int) : aconv Tryz.prog H 22 9 (bytesL l) = some (.v (.string (strOf l))) := conv_bytesL u22 u9 u5 H l
theorem ok_llwBig : fnOk Tryz.prog cfg0 4 Tryz.f4 = true := by kernel_rfl
theorem p_llwBig (l : List Int) : pure Tryz.prog cfg0 4 Tryz.f4 [bytesL l] = some (.v (.bool (decide (1048576 < (l.length : Int)))), true) := by
  refine pure_wp (rs := [.tmp 2]) rfl rfl ?_
  have hp0 : ∀ b, cfg0.pol 4 b = 0 := fun b => rfl
  (have hF := hp0; have hc := trivial; repeat' (first | refine wK ?_ | refine wX ?_ | refine rR ?_ | refine rB ?_ ?_ <;> intro ht <;> try simp only [bbs] at ht | refine rG ?_ ?_ <;> intro hc | refine rZ ?_ | refine wQ ?_))
  exact gives_boolv rfl
theorem c_llwBig (l : List Int) : ∀ H, call Tryz.prog cfg0 0 4 [bytesL l] H = some (.v (.bool (decide (1048576 < (l.length : Int)))), H) :=
  call_fz Tryz.func4 rfl ok_llwBig rfl (by simp only [fz_cons, fz_nil, go_sem, and_self]) (p_llwBig l)

theorem ok_llwSame : fnOk Tryz.prog cfg0 17 Tryz.f17 = true := by kernel_rfl
theorem p_llwSame (a b : List Int) (ha : Eng.Bytes a) (hb : Eng.Bytes b) : pure Tryz.prog cfg0 17 Tryz.f17 [bytesL a, bytesL b] = some (.v (.bool (decide (a = b))), true) := by
  refine pure_wp (rs := [.tmp 4]) rfl rfl ?_
  have hp0 : ∀ b, cfg0.pol 17 b = 0 := fun b => rfl
  (have hF := an hp0 <| conv_b; have hc := trivial; repeat' (first | refine wK ?_ | refine wX ?_ | refine rR ?_ | refine rB ?_ ?_ <;> intro ht <;> try simp only [bbs] at ht | refine rG ?_ ?_ <;> intro hc | refine rZ ?_ | refine wQ ?_))
  exact gives_boolv (strOf_eq ha hb)
theorem c_llwSame (a b : List Int) (ha : Eng.Bytes a) (hb : Eng.Bytes b) : ∀ H, call Tryz.prog cfg0 0 17 [bytesL a, bytesL b] H = some (.v (.bool (decide (a = b))), H) :=
  call_fz Tryz.func17 rfl ok_llwSame rfl (by simp only [fz_cons, fz_nil, go_sem, and_self]) (p_llwSame a b ha hb)

theorem qF_pack {l : List Int} {i t : Int} {ls : List ByteArray} (h : qF l = some (i, ls, t)) : packB i ls t = l ∧ i = num2n l 0 := by
  unfold qF at h
  split at h
  · unfold askF at h
    split at h
    · rename_i hz
      simp only [Option.some.injEq, Prod.mk.injEq] at h
      obtain ⟨rfl, rfl, rfl⟩ := h
      exact ⟨hz.2, num2n_is l 0⟩
    · simp at h
  · simp at h
theorem rq_is (l : List Int) : ∃ c i ls t, rqR l = qrR c i ls t ∧ (c = 0 → qF l = some (i, ls, t)) ∧ (¬ c = 0 → qF l = none) := by
  cases h : qF l with
  | none =>
    obtain ⟨c, hc, e⟩ := rq_none h
    exact ⟨c, 0, [], 0, e, fun x => absurd x hc, fun _ => rfl⟩
  | some z =>
    obtain ⟨i, ls, t⟩ := z
    exact ⟨0, i, ls, t, rq_some h, fun _ => rfl, fun x => absurd rfl x⟩
theorem raX_ex (l : List Int) : ∃ c i s d rs, raX l = arA c i s d rs := by
  unfold raX
  split
  · split <;> exact ⟨_, _, _, _, _, rfl⟩
  · exact ⟨_, _, _, _, _, rfl⟩
/-- What is packed is read back. -/
theorem pack_rq {i t : Int} {ls : List ByteArray} (hi : 0 ≤ i ∧ i ≤ 65535) (htt : 0 ≤ t ∧ t ≤ 65535) (hk : labsOk ls) : rqR (packB i ls t) = qrR 0 i ls t := by
  obtain ⟨h1, h2⟩ := pack_read (i := i) (t := t) hk
  have hel := encN_len hk
  have hb := pack_bytes i t ls
  have e1 : num2 (packB i ls t) 0 = i := by
    show num2 (packB i ls t) ((0 : Nat) : Int) = i
    rw [num2n_is]
    have g : ((packB i ls t).drop 0).take 2 = [i / 256 % 256, i % 256] := by
      rw [← word2E]; unfold packB; simp only [List.append_assoc, List.drop_zero]; rw [List.take_left' (wordL_len i 2)]
    rw [num2n_at hb g]; omega
  have e2 : num2 (packB i ls t) (12 + ((encN ls).length : Int)) = t := by
    rw [show (12 : Int) + ((encN ls).length : Int) = ((12 + (encN ls).length : Nat) : Int) by omega, num2n_is]
    have g : ((packB i ls t).drop (12 + (encN ls).length)).take 2 = [t / 256 % 256, t % 256] := by
      rw [← word2E]
      have e : packB i ls t = (wordL i 2 ++ [1, 0, 0, 1, 0, 0, 0, 0, 0, 0] ++ encN ls) ++ (wordL t 2 ++ [0, 1]) := by simp [packB, List.append_assoc]
      rw [e, List.drop_left' (by simp [wordL_len]; omega), List.take_left' (wordL_len t 2)]
    rw [num2n_at hb g]; omega
  apply rq_some
  unfold qF
  rw [if_pos ⟨by omega, by omega⟩]
  unfold askF
  rw [h1]
  simp only [e1, e2]
  rw [if_pos ⟨trivial, trivial⟩]
theorem pk_inv {i t : Int} {ls : List ByteArray} (h : pkC i t ls = 0) : (0 ≤ i ∧ i ≤ 65535) ∧ (0 ≤ t ∧ t ≤ 65535) ∧ labsOk ls := by
  unfold pkC at h
  split at h
  · rename_i hr; exact ⟨hr.1, hr.2, labE_0.1 h⟩
  · omega
theorem aq_inv {vw : List ClaimM} {l : List Int} {mo : Int} (h : aqC vw l mo = 0) : viewF vw = 0 ∧ inB mo 60 300 = true ∧ 12 ≤ l.length ∧ ∃ B, aqO vw l mo = some B ∧ aqB vw l mo = B := by
  have hx := h
  unfold aqC at h
  split at h
  · rename_i hv
    split at h
    · rename_i hm
      split at h
      · rename_i h12
        cases ho : aqO vw l mo with
        | none => rw [ho] at h; simp at h
        | some o => exact ⟨hv, hm, h12, o, rfl, (aq_some hv hm h12 ho).2⟩
      · omega
    · omega
  · rename_i hv; exact absurd h hv
theorem ok_law : fnOk Tryz.prog cfg0 3 Tryz.f3 = true := by kernel_rfl
theorem p_law (code : List Int) (hb : Eng.Bytes code) (hl0 : code.length ≤ 140737488351232) : pure Tryz.prog cfg0 3 Tryz.f3 [bytesL code] = some (.v (.bool true), true) := by
  refine pure_wp (rs := [.tmp 2]) rfl rfl ?_
  have hp0 : ∀ b, cfg0.pol 3 b = 0 := fun b => rfl
  have bg := c_llwBig code
  by_cases hbig : 1048576 < (code.length : Int)
  · rw [decide_eq_true hbig] at bg
    (have hF := an hp0 <| bg; have hc := trivial; repeat' (first | refine wK ?_ | refine wX ?_ | refine rR ?_ | refine rB ?_ ?_ <;> intro ht <;> try simp only [bbs] at ht | refine rG ?_ ?_ <;> intro hc | refine rZ ?_ | refine wQ ?_))
    all_goals try exact False.elim kk
    all_goals exact ⟨rfl, rfl⟩
  rw [decide_eq_false hbig] at bg
  have hco : CodeOk code := ⟨hb, by omega⟩
  obtain ⟨i, t, ls, hls, cP⟩ := c_DrawPQ hco
  obtain ⟨l1, hl1, cR⟩ := c_DrawRQ hco
  obtain ⟨vw, d, mo, hvw, hd, cA⟩ := c_DrawAQ hco
  obtain ⟨l3, hl3, cB⟩ := c_DrawRA hco
  have i1 := c_PackQ i t ls (fun s hs => by have := hls.2 s hs; omega) (by omega)
  have j1 := c_sPackQuery i t ls (fun s hs => by have := hls.2 s hs; omega) (by omega)
  have i2 := c_iReadQuery l1 hl1.1 (by omega)
  have j2 := c_sReadQuery l1 hl1.1 (by omega)
  have i3 := c_iAnswerQuery vw (by omega) d hd.1 (by omega) mo
  have j3 := c_sAnswerQuery vw (by omega) d hd.1 (by omega) mo
  have i4 := c_iReadAnswer l3 hl3.1 (by omega)
  have j4 := c_sReadAnswer l3 hl3.1 (by omega)
  obtain ⟨c1, ii, ls1, t1, e1, hq0, hq1⟩ := rq_is l1
  rw [e1] at i2 j2
  unfold qrR at i2 j2
  obtain ⟨c3, i3x, s3, d3, rs3, e3⟩ := raX_ex l3
  rw [e3] at i4 j4
  unfold arA at i4 j4
  have tx := tx_ok ls
  have tx1 := tx_ok ls1
  have by1 := by_ok (pkB i t ls)
  have by3 := by_ok (aqB vw d mo)
  (have hF := an hp0 <| an bg <| an cP <| an cR <| an cA <| an cB <| an i1 <| an j1 <| an i2 <| an j2 <| an i3 <| an j3 <| an i4 <| an j4 <| an tx.1 <| an tx.2 <| an tx1.1 <| an tx1.2 <| an by1.1 <| an by1.2 <| an by3.1 <| an by3.2 <| an not_true_eq_false <| an @bne_self_eq_false.{0} <| @beq_self_eq_true.{0}; have hc := trivial; repeat' ((fail_if_success (first | refine wAt 12 ?_ | refine wAtL 12 ?_)); first | refine wK ?_ | refine wX ?_ | refine rR ?_ | refine rB ?_ ?_ <;> intro ht <;> try simp only [bbs] at ht | refine rG ?_ ?_ <;> intro hc | refine rZ ?_ | refine wQ ?_))
  all_goals try exact False.elim kk
  refine wMid (fun s => s.1 0 = bytesL code ∧ s.1 5 = bytesL l1 ∧ s.1 6 = .ptr 2 0 ∧ s.1 7 = .lst false (vw.map encClaim) ∧ s.1 8 = bytesL d ∧ s.1 9 = .v (.int .i64 mo) ∧ s.1 10 = .ptr 3 0 ∧ s.2.h 2 = some [.v (.int .i64 c1), .v (.int .i64 ii), textsL ls1, .v (.int .i64 t1)] ∧ s.2.h 3 = some [.v (.int .i64 (aqC vw d mo)), bytesL (aqB vw d mo)] ∧ 3 < s.2.g) ?_ ?_
  · have hsh : ∀ (e : Env) (K : Hp), e 0 = bytesL code → e 5 = bytesL l1 → e 6 = .ptr 2 0 → e 7 = .lst false (vw.map encClaim) → e 8 = bytesL d → e 9 = .v (.int .i64 mo) → e 10 = .ptr 3 0 → K.h 2 = some [.v (.int .i64 c1), .v (.int .i64 ii), textsL ls1, .v (.int .i64 t1)] → K.h 3 = some [.v (.int .i64 (aqC vw d mo)), bytesL (aqB vw d mo)] → 3 < K.g → (fun s => s.1 0 = bytesL code ∧ s.1 5 = bytesL l1 ∧ s.1 6 = .ptr 2 0 ∧ s.1 7 = .lst false (vw.map encClaim) ∧ s.1 8 = bytesL d ∧ s.1 9 = .v (.int .i64 mo) ∧ s.1 10 = .ptr 3 0 ∧ s.2.h 2 = some [.v (.int .i64 c1), .v (.int .i64 ii), textsL ls1, .v (.int .i64 t1)] ∧ s.2.h 3 = some [.v (.int .i64 (aqC vw d mo)), bytesL (aqB vw d mo)] ∧ 3 < s.2.g) (e, K) := fun e K a0 a5 a6 a7 a8 a9 a10 b2 b3 b4 => ⟨a0, a5, a6, a7, a8, a9, a10, b2, b3, b4⟩
    by_cases hpk : pkC i t ls = 0
    · obtain ⟨hi, htt, hk⟩ := pk_inv hpk
      have hB : pkB i t ls = packB i ls t := (pk_ok hi htt hk).2
      have hpl := (pack_read (i := i) (t := t) hk).2
      have hel := encN_len hk
      have d1 := c_iReadQuery (packB i ls t) (pack_bytes i t ls) (by omega)
      rw [pack_rq hi htt hk] at d1
      unfold qrR at d1
      (have hF := an hp0 <| an hpk <| an hB <| an d1 <| an tx.1 <| an tx.2 <| an lenD_texts <| an not_true_eq_false <| @bne_self_eq_false.{0}; have hc := trivial; repeat' (first | refine wK ?_ | refine wX ?_ | refine rR ?_ | refine rB ?_ ?_ <;> intro ht <;> try simp only [bbs] at ht | refine rG ?_ ?_ <;> intro hc | refine rZ ?_ | refine wQ ?_))
      all_goals try exact False.elim kk
      all_goals exact hsh _ _ rfl rfl rfl rfl rfl rfl rfl rfl rfl (by show (3 : Nat) < 5; omega)
    · (have hF := an hp0 <| hpk; have hc := trivial; repeat' (first | refine wK ?_ | refine wX ?_ | refine rR ?_ | refine rB ?_ ?_ <;> intro ht <;> try simp only [bbs] at ht | refine rG ?_ ?_ <;> intro hc | refine rZ ?_ | refine wQ ?_))
      all_goals try exact False.elim kk
      all_goals exact hsh _ _ rfl rfl rfl rfl rfl rfl rfl rfl rfl (by show (3 : Nat) < 4; omega)
  rintro ⟨e, H⟩ ⟨h0, h5, h6, h7, h8, h9, h10, k2, k3, hgg⟩
  simp only at h0 h5 h6 h7 h8 h9 h10 k2 k3 hgg
  show Wp _ _ _ _ _ _
  (have hF := hp0; have hc := trivial; repeat' ((fail_if_success (first | refine wAt 16 ?_ | refine wAtL 16 ?_)); first | refine wK ?_ | refine wX ?_ | refine rR ?_ | refine rB ?_ ?_ <;> intro ht <;> try simp only [bbs] at ht | refine rG ?_ ?_ <;> intro hc | refine rZ ?_ | refine wQ ?_))
  refine wMid (fun s => s.1 0 = bytesL code ∧ s.1 5 = bytesL l1 ∧ s.1 6 = .ptr 2 0 ∧ s.1 7 = .lst false (vw.map encClaim) ∧ s.1 8 = bytesL d ∧ s.1 9 = .v (.int .i64 mo) ∧ s.1 10 = .ptr 3 0 ∧ s.2.h 2 = some [.v (.int .i64 c1), .v (.int .i64 ii), textsL ls1, .v (.int .i64 t1)] ∧ s.2.h 3 = some [.v (.int .i64 (aqC vw d mo)), bytesL (aqB vw d mo)] ∧ 3 < s.2.g) ?_ ?_
  · by_cases hc1 : c1 = 0
    · have hq := hq0 hc1
      obtain ⟨hk1, hi1, htt1, -, -⟩ := qF_ok hl1.1 hq
      obtain ⟨hpk1, -⟩ := qF_pack hq
      have i5 := c_iPackQuery ii t1 ls1 hi1 htt1 hk1
      rw [hpk1] at i5
      have w5 := c_llwSame l1 l1 hl1.1 hl1.1
      rw [decide_eq_true rfl] at w5
      (have hF := an hp0 <| an h5 <| an h6 <| an k2 <| an hc1 <| an i5 <| an w5 <| an tx1.1 <| tx1.2; have hc := trivial; repeat' (first | refine wK ?_ | refine wX ?_ | refine rR ?_ | refine rB ?_ ?_ <;> intro ht <;> try simp only [bbs] at ht | refine rG ?_ ?_ <;> intro hc | refine rZ ?_ | refine wQ ?_))
      all_goals try exact False.elim kk
      all_goals
        show (_ = _) ∧ (_ = _) ∧ (_ = _) ∧ (_ = _) ∧ (_ = _) ∧ (_ = _) ∧ (_ = _) ∧ (_ = _) ∧ (_ = _) ∧ (_ < _)
        simp only [upd_eq, put, Nat.reduceEqDiff, if_false, if_true]
        exact ⟨h0, h5, h6, h7, h8, h9, h10, k2, k3, hgg⟩
    · (have hF := an hp0 <| an h6 <| an k2 <| hc1; have hc := trivial; repeat' (first | refine wK ?_ | refine wX ?_ | refine rR ?_ | refine rB ?_ ?_ <;> intro ht <;> try simp only [bbs] at ht | refine rG ?_ ?_ <;> intro hc | refine rZ ?_ | refine wQ ?_))
      all_goals try exact False.elim kk
      all_goals
        show (_ = _) ∧ (_ = _) ∧ (_ = _) ∧ (_ = _) ∧ (_ = _) ∧ (_ = _) ∧ (_ = _) ∧ (_ = _) ∧ (_ = _) ∧ (_ < _)
        simp only [upd_eq, put, Nat.reduceEqDiff, if_false, if_true]
        exact ⟨h0, h5, h6, h7, h8, h9, h10, k2, k3, hgg⟩
  clear h0 h5 h6 h7 h8 h9 h10 k2 k3 hgg
  rintro ⟨e, H⟩ ⟨h0, h5, h6, h7, h8, h9, h10, k2, k3, hgg⟩
  simp only at h0 h5 h6 h7 h8 h9 h10 k2 k3 hgg
  show Wp _ _ _ _ _ _
  by_cases hac : aqC vw d mo = 0
  rotate_left
  · (have hF := an hp0 <| an h10 <| an k3 <| hac; have hc := trivial; repeat' (first | refine wK ?_ | refine wX ?_ | refine rR ?_ | refine rB ?_ ?_ <;> intro ht <;> try simp only [bbs] at ht | refine rG ?_ ?_ <;> intro hc | refine rZ ?_ | refine wQ ?_))
    all_goals try exact False.elim kk
    all_goals exact ⟨rfl, rfl⟩
  obtain ⟨hv, hm, h12, B, hB, hBq⟩ := aq_inv hac
  obtain ⟨n, hn, haR, h3', hct, htk, hle, hB12, hBb⟩ := ans_read hd.1 hv hm h12 hB
  obtain ⟨hrl, hro⟩ := rsQ_ok hd.1 hv
  have hm3 := (inB_t.1 hm).2
  have hraB : raX B = arA 0 (num2n B 0) (stQ d) (decide (n < (rsQ vw d).length)) ((rsQ vw d).take n) := by rw [ra_some ⟨hB12, by omega⟩ haR, h3', hct]
  have d6 := c_iReadAnswer B hBb (by omega)
  rw [hraB] at d6
  unfold arA at d6
  rw [hac, hBq] at k3 j3
  have w6 := c_llwSame B B hBb hBb
  rw [decide_eq_true rfl] at w6
  have hd2 : Eng.Bytes (d.take 2) := fun z hz => hd.1 z (List.mem_of_mem_take hz)
  have w7 := c_llwSame (d.take 2) (d.take 2) hd2 hd2
  rw [decide_eq_true rfl] at w7
  have hleI : ¬ mo < ((B.length : Nat) : Int) := by omega
  have s2B : (2 ≤ B.length) = True := eq_true (by omega)
  have s2d : (2 ≤ d.length) = True := eq_true (by omega)
  have j5 := c_sReadQuery d hd.1 (by omega)
  obtain ⟨c4, i4', ls4, t4, e4, hq4, hq5⟩ := rq_is d
  rw [e4] at j5
  unfold qrR at j5
  have tx4 := tx_ok ls4
  have g3 : (3 = H.g) = False := eq_false (by omega)
  have g31 : (3 = H.g + 1) = False := eq_false (by omega)
  have g32 : (3 = H.g + 1 + 1) = False := eq_false (by omega)
  have g33 : (3 = H.g + 1 + 1 + 1) = False := eq_false (by omega)
  have gg3 : (H.g = H.g + 1 + 1 + 1) = False := eq_false (by omega)
  have by6 := by_ok B
  have hid : num2n B 0 = num2n d 0 := by
    obtain ⟨a, b, e2⟩ := take_two (l := d) (by omega)
    rw [num2n_at hBb (show (B.drop 0).take 2 = [a, b] by rw [List.drop_zero, htk, e2]), num2n_at hd.1 (show (d.drop 0).take 2 = [a, b] by rw [List.drop_zero, e2])]
  by_cases hc4 : c4 = 0
  rotate_left
  · have hqn := hq5 hc4
    have hst : stQ d = 1 := by unfold stQ; rw [hqn]
    have hall : rsQ vw d = [] := by unfold rsQ; rw [hqn]
    rw [hst, hall] at d6
    simp only [List.take_nil, List.map_nil, List.length_nil, Nat.not_lt_zero, decide_false] at d6
    have hc4F : (c4 = 0) = False := eq_false hc4
    (have hF := an hp0 <| an h0 <| an h7 <| an h8 <| an h9 <| an h10 <| an k3 <| an d6 <| an j3 <| an w6 <| an w7 <| an hleI <| an s2B <| an s2d <| an htk <| an j5 <| an hc4F <| an tx4.1 <| an tx4.2 <| an by6.1 <| an by6.2 <| an g3 <| an g31 <| an Nat.zero_le <| an Nat.sub_zero <| not_true_eq_false; have hc := trivial; repeat' (first | refine wK ?_ | refine wX ?_ | refine rR ?_ | refine rB ?_ ?_ <;> intro ht <;> try simp only [bbs] at ht | refine rG ?_ ?_ <;> intro hc | refine rZ ?_ | refine wQ ?_))
    all_goals try exact False.elim kk
    all_goals exact ⟨rfl, rfl⟩
  have hq := hq4 hc4
  obtain ⟨hk4, hi4, htt4, -, -⟩ := qF_ok hd.1 hq
  obtain ⟨-, hid4⟩ := qF_pack hq
  have hst : stQ d = stF ls4 t4 := by unfold stQ; rw [hq]
  have i6 := c_iServiceOf ls4 (labs_sizes hk4)
  by_cases hsv : svOf ls4 < 0
  · have hst3 : stQ d = 3 := by rw [hst]; unfold stF; rw [if_pos hsv]
    have hall : rsQ vw d = [] := by unfold rsQ; rw [hq]; simp only; rw [if_neg (by unfold stF; rw [if_pos hsv]; omega)]
    rw [hst3, hall] at d6
    simp only [List.take_nil, List.map_nil, List.length_nil, Nat.not_lt_zero, decide_false] at d6
    rw [show svC ls4 = 4 by unfold svC; rw [if_pos hsv]] at i6
    (have hF := an hp0 <| an h0 <| an h7 <| an h8 <| an h9 <| an h10 <| an k3 <| an d6 <| an j3 <| an w6 <| an w7 <| an hleI <| an s2B <| an s2d <| an htk <| an j5 <| an hc4 <| an i6 <| an tx4.1 <| an tx4.2 <| an by6.1 <| an by6.2 <| an g3 <| an g31 <| an g32 <| an Nat.zero_le <| an Nat.sub_zero <| not_true_eq_false; have hc := trivial; repeat' (first | refine wK ?_ | refine wX ?_ | refine rR ?_ | refine rB ?_ ?_ <;> intro ht <;> try simp only [bbs] at ht | refine rG ?_ ?_ <;> intro hc | refine rZ ?_ | refine wQ ?_))
    all_goals try exact False.elim kk
    all_goals exact ⟨rfl, rfl⟩
  rw [show svC ls4 = 0 by unfold svC; rw [if_neg hsv], show svV ls4 = svOf ls4 by unfold svV; rw [if_neg hsv]] at i6
  have i7 := c_iRecordsFor vw (by omega) (svOf ls4) t4
  have h99 := sv_le ls4
  cases htb : typB t4 with
  | false =>
    have hst4 : stQ d = 4 := by rw [hst]; unfold stF; rw [if_neg hsv, if_neg (by simp [htb])]
    have hall : rsQ vw d = [] := by unfold rsQ; rw [hq]; simp only; rw [if_neg (by rw [← hst, hst4]; omega)]
    rw [hst4, hall] at d6
    simp only [List.take_nil, List.map_nil, List.length_nil, Nat.not_lt_zero, decide_false] at d6
    rw [rfR_c (c := 3) (by unfold rfC; rw [if_pos hv, if_neg (by simp [htb])]) (by omega)] at i7
    (have hF := an hp0 <| an h0 <| an h7 <| an h8 <| an h9 <| an h10 <| an k3 <| an d6 <| an j3 <| an w6 <| an w7 <| an hleI <| an s2B <| an s2d <| an htk <| an j5 <| an hc4 <| an i6 <| an i7 <| an tx4.1 <| an tx4.2 <| an by6.1 <| an by6.2 <| an g3 <| an g31 <| an g32 <| an g33 <| an gg3 <| an Nat.zero_le <| an Nat.sub_zero <| not_true_eq_false; have hc := trivial; repeat' (first | refine wK ?_ | refine wX ?_ | refine rR ?_ | refine rB ?_ ?_ <;> intro ht <;> try simp only [bbs] at ht | refine rG ?_ ?_ <;> intro hc | refine rZ ?_ | refine wQ ?_))
    all_goals try exact False.elim kk
    all_goals exact ⟨rfl, rfl⟩
  | true =>
    have hst0 : stF ls4 t4 = 0 := by unfold stF; rw [if_neg hsv, if_pos htb]
    have hall : rsQ vw d = recsL vw (svOf ls4) t4 := by unfold rsQ; rw [hq]; exact if_pos hst0
    rw [hst, hst0] at d6
    rw [rfR_0 (by unfold rfC; rw [if_pos hv, if_pos ⟨inB_t.2 ⟨by omega, h99⟩, htb⟩])] at i7
    rw [hall] at d6 hn hrl
    rw [hid, ← hid4] at d6
    generalize recsL vw (svOf ls4) t4 = all at *
    have i8 := c_iSameRecords (all.take n) (all.take n) (by rw [List.length_take]; omega)
    rw [decide_eq_true rfl] at i8
    have hln : (all.take n).length = n := by rw [List.length_take]; omega
    have hnle : (((n : Nat) : Int) ≤ ((all.length : Nat) : Int)) = True := eq_true (by omega)
    have hnN : (n ≤ all.length) = True := eq_true hn
    have hdd : decide (((n : Nat) : Int) < ((all.length : Nat) : Int)) = decide (n < all.length) := decide_eq_decide.2 (by omega)
    (have hF := an hp0 <| an h0 <| an h7 <| an h8 <| an h9 <| an h10 <| an k3 <| an d6 <| an j3 <| an w6 <| an w7 <| an hleI <| an s2B <| an s2d <| an htk <| an j5 <| an hc4 <| an i6 <| an i7 <| an i8 <| an tx4.1 <| an tx4.2 <| an by6.1 <| an by6.2 <| an g3 <| an g31 <| an g32 <| an g33 <| an gg3 <| an hln <| an hnle <| an hnN <| an hdd <| an @List.length_map.{0,0} <| an Nat.zero_le <| an Nat.sub_zero <| an not_true_eq_false <| @beq_self_eq_true.{0}; have hc := trivial; repeat' (first | refine wK ?_ | refine wX ?_ | refine rR ?_ | refine rB ?_ ?_ <;> intro ht <;> try simp only [bbs] at ht | refine rG ?_ ?_ <;> intro hc | refine rZ ?_ | refine wQ ?_))
    all_goals try exact False.elim kk
    all_goals exact ⟨rfl, rfl⟩
theorem law (xs : List AV) (h : ArgsC Tryz.prog reach 2 [22] xs) : pure Tryz.prog cfg0 3 Tryz.f3 xs = some (.v (.bool true), true) := by
  obtain ⟨x0, r0, rfl, h0, rfl⟩ := h
  unfold ArgC at h0
  rw [agg22] at h0
  obtain ⟨a0, e0, g0, w0⟩ := shC_bytes u22 u5 byn5 h0
  simp only [List.cons.injEq, and_true] at e0
  subst e0
  have k0 : a0.length ≤ 140737488351232 := by simp only [reach] at w0; omega
  exact p_law a0 g0 k0
end
end Go.Proofs.YtnejoidfbgklbaaGreatDoor.fnAnswers
