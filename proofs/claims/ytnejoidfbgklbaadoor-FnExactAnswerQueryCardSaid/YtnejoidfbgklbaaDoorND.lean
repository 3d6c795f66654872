/- Contracts: queries into bytes, and read, the reference's side. Contracts: queries into bytes, the reference's side. Contracts: queries read, the reference's side. Contracts: records in bytes, both sides. Contracts: records in bytes, both sides. Contracts: records in bytes, the reference's side. -/
import Derived.Test.YtnejoidfbgklbaaDoorNC
namespace Go.Proofs.YtnejoidfbgklbaaDoor
open Go Go.RowKit Go.Proofs.YtnejoidfbgklbaaDoor.Eng
set_option linter.unusedSimpArgs false
set_option linter.unusedVariables false
set_option maxRecDepth 100000
set_option maxHeartbeats 2000000
noncomputable section
theorem apL {y : AV} {l : List Int} (hy : isB y l) (hne : l ≠ []) (hl : l.length ≤ 1048576) (k : Int) (H : Hp) : aappend Tryd.prog H [22, 22] (.lst true [[.v (.int .u8 k)]]) y = some (.sl H.g 1 0 ([k] ++ l).length, H.new (([k] ++ l).map cell)) := app_lit1 el22 zero5 by5 int22 hy hne hl k H
open Classical in
theorem apB {y : AV} {l : List Int} (hy : isB y l) (hne : l ≠ []) (a : List Int) (hl : a.length + l.length ≤ 16777216) (H : Hp) (b n : Nat) : aappend Tryd.prog H [22, 22] (.sl b 1 0 n) y = if H.h b = some (a.map cell) ∧ n = a.length then some (.sl H.g 1 0 (a ++ l).length, (H.del b).new ((a ++ l).map cell)) else aappend' Tryd.prog H [22, 22] (.sl b 1 0 n) y := app_blkI el22 zero5 by5 int22 hy hne a hl H b n
theorem gO_eq {l l' : List Int} {x : AV} {H : Hp} (e : l = l') (h : GivesO (bytesL l) x H) : GivesO (bytesL l') x H := e ▸ h
theorem o_pack2 (n : Int) (hn : 0 ≤ n ∧ n ≤ 9223372036854775807) : ∀ H, call Tryd.prog cfg0 1 78 [.v (.int .i64 n), .v (.int .i64 2)] H = some (.sl H.g 1 0 (wordL n 2).length, H.new ((wordL n 2).map cell)) := fun H => by
  rw [o_sl1Pack n 2 2 rfl hn (by omega)]; exact mat_bytes 10 _ (wordL_ne n (by omega)) H
theorem ok_sl10Pair : fnOk Tryd.prog cfg0 59 Tryd.f59 = true := by kernel_rfl
theorem pq_sl10Pair (n : Int) (hn : 0 ≤ n ∧ n ≤ 9223372036854775807) : pure Tryd.prog cfg0 59 Tryd.f59 [.v (.int .i64 n)] = some (bytesL (wordL n 2), true) ∧ owned Tryd.prog cfg0 59 Tryd.f59 [.v (.int .i64 n)] = some (bytesL (wordL n 2)) := by
  refine both_wp (rs := [.tmp 2]) rfl rfl ?_
  have hp0 : ∀ b, cfg0.pol 59 b = (if b = 4 then 1 else 0) := fun b => rfl
  repeat' (first | ((first | refine wSeqr ?_ | refine wIf ?_ | refine wReg ?_ | (refine wRet ?_; (try simp only [thenQ, blockQ]); refine ends_by ?_)); intro xx hx; have hc := trivial; (repeat' (simp only [hc, Nat.reduceBEq, go_sem, Nat.reduceAdd, Nat.reduceMul, Nat.reduceSub, Nat.reduceEqDiff, Nat.reduceLT, Nat.reduceLeDiff, Int.reduceEq, Int.reduceLT, Int.reduceLE, reduceIte, aresults, aresult, hp0, o_pack2 n hn] at hx; (try (rw [guardL_if] at hx; split at hx <;> rename_i hc)))); all_goals (subst hx; first | (refine ⟨_, rfl, fun ht => ?_, fun ht => ?_⟩ <;> (try simp only [bbs] at ht)) | (refine ⟨_, rfl, ?_⟩; (try simp only [tupOf])))) | refine wSkip ?_ | (refine wExit ?_; simp only [thenQ, blockQ, reduceIte, Nat.reduceEqDiff]) | refine wSeq ?_ | refine wBlock ?_)
  all_goals try (exfalso; (try simp only [bbs] at *); first | omega | exact absurd trivial (by assumption))
  all_goals exact gO_bytes (new_same _ _)
theorem p_sl10Pair (n : Int) (hn : 0 ≤ n ∧ n ≤ 9223372036854775807) : pure Tryd.prog cfg0 59 Tryd.f59 [.v (.int .i64 n)] = some (bytesL (wordL n 2), true) := (pq_sl10Pair n hn).1
theorem c_sl10Pair (n : Int) (hn : 0 ≤ n ∧ n ≤ 9223372036854775807) : ∀ H, call Tryd.prog cfg0 0 59 [.v (.int .i64 n)] H = some (bytesL (wordL n 2), H) :=
  call_fz Tryd.func59 rfl ok_sl10Pair rfl (by simp only [fz_cons, fz_nil, go_sem, and_self]) (pq_sl10Pair n hn).1
theorem o_sl10Pair (n : Int) (hn : 0 ≤ n ∧ n ≤ 9223372036854775807) : ∀ H, call Tryd.prog cfg0 1 59 [.v (.int .i64 n)] H = mat depthD (bytesL (wordL n 2)) H := fun H =>
  call_ofO Tryd.func59 rfl ok_sl10Pair rfl (mapM_self fun x hx => ((show ∀ x ∈ ([.v (.int .i64 n)] : List AV), Fz depthD x by simp only [fz_cons, fz_nil, go_sem, and_self]) x hx).1 H) (pq_sl10Pair n hn).2

theorem o_pair (n : Int) (hn : 0 ≤ n ∧ n ≤ 9223372036854775807) : ∀ H, call Tryd.prog cfg0 1 59 [.v (.int .i64 n)] H = some (.sl H.g 1 0 (wordL n 2).length, H.new ((wordL n 2).map cell)) := fun H => by
  rw [o_sl10Pair n hn]; exact mat_bytes 10 _ (wordL_ne n (by omega)) H
end
end Go.Proofs.YtnejoidfbgklbaaDoor
namespace Go.Proofs.YtnejoidfbgklbaaDoor
open Go Go.RowKit Go.Proofs.YtnejoidfbgklbaaDoor.Eng
set_option linter.unusedSimpArgs false
set_option linter.unusedVariables false
set_option maxRecDepth 100000
set_option maxHeartbeats 2000000
noncomputable section
theorem lit10 : bs 10 [AV.v (.int .u8 0)] [(0, AV.v (.int .u8 1)), (1, AV.v (.int .u8 0)), (2, AV.v (.int .u8 0)), (3, AV.v (.int .u8 1)), (4, AV.v (.int .u8 0)), (5, AV.v (.int .u8 0)), (6, AV.v (.int .u8 0)), (7, AV.v (.int .u8 0)), (8, AV.v (.int .u8 0)), (9, AV.v (.int .u8 0))] = some ([AV.v (.int .u8 1), AV.v (.int .u8 0), AV.v (.int .u8 0), AV.v (.int .u8 1), AV.v (.int .u8 0), AV.v (.int .u8 0), AV.v (.int .u8 0), AV.v (.int .u8 0), AV.v (.int .u8 0), AV.v (.int .u8 0)], 1) := by kernel_rfl
theorem chk10 : chunk 1 10 [AV.v (.int .u8 1), AV.v (.int .u8 0), AV.v (.int .u8 0), AV.v (.int .u8 1), AV.v (.int .u8 0), AV.v (.int .u8 0), AV.v (.int .u8 0), AV.v (.int .u8 0), AV.v (.int .u8 0), AV.v (.int .u8 0)] = [[AV.v (.int .u8 1)], [AV.v (.int .u8 0)], [AV.v (.int .u8 0)], [AV.v (.int .u8 1)], [AV.v (.int .u8 0)], [AV.v (.int .u8 0)], [AV.v (.int .u8 0)], [AV.v (.int .u8 0)], [AV.v (.int .u8 0)], [AV.v (.int .u8 0)]] := by kernel_rfl
theorem fz_fq (i : Int) (ls : List ByteArray) (t : Int) : Fz depthD (.fp [.v (.int .i64 i), textsL ls, .v (.int .i64 t)] 0) := Fz.fp (n := 11) fun x hx => by
  simp only [List.mem_cons, List.not_mem_nil, or_false] at hx
  rcases hx with rfl | rfl | rfl
  · exact Fz.int _ _ _
  · exact fz_rows (n := 10) (fun s x hx => by simp only [List.mem_singleton] at hx; subst hx; exact Fz.string _ _) ls
  · exact Fz.int _ _ _
theorem ok_sl10Query : fnOk Tryd.prog cfg0 56 Tryd.f56 = true := by kernel_rfl
theorem pq_sl10Query (i t : Int) (ls : List ByteArray) (hi : 0 ≤ i ∧ i ≤ 65535) (htt : 0 ≤ t ∧ t ≤ 65535) (hk : labsOk ls) : pure Tryd.prog cfg0 56 Tryd.f56 [.fp [.v (.int .i64 i), textsL ls, .v (.int .i64 t)] 0] = some (bytesL (packB i ls t), true) ∧ owned Tryd.prog cfg0 56 Tryd.f56 [.fp [.v (.int .i64 i), textsL ls, .v (.int .i64 t)] 0] = some (bytesL (packB i ls t)) := by
  refine both_wp (rs := [.tmp 2]) rfl rfl ?_
  have hp0 : ∀ b, cfg0.pol 56 b = (if b = 8 then 1 else if b = 15 then 3 else if b = 21 then 3 else if b = 1000000 then 2 else 0) := fun b => rfl
  have hel := encN_len hk
  have hne : encN ls ≠ [] := by unfold encN; simp
  have hpi := o_pair i (by omega)
  have hpt := c_sl10Pair t (by omega)
  have hnm := c_sl10Name ls hk
  have hw1 := wordL_len i 2
  have hw2 := wordL_len t 2
  have q1 := fun H b n => apB (y := .lst true [[.v (.int .u8 1)], [.v (.int .u8 0)], [.v (.int .u8 0)], [.v (.int .u8 1)], [.v (.int .u8 0)], [.v (.int .u8 0)], [.v (.int .u8 0)], [.v (.int .u8 0)], [.v (.int .u8 0)], [.v (.int .u8 0)]]) (l := [1, 0, 0, 1, 0, 0, 0, 0, 0, 0]) ⟨true, rfl⟩ (by simp) (wordL i 2) (by simp; omega) H b n
  have q2 := fun H b n => apB (isB_l (encN ls)) hne (wordL i 2 ++ [1, 0, 0, 1, 0, 0, 0, 0, 0, 0]) (by simp; omega) H b n
  have q3 := fun H b n => apB (isB_l (wordL t 2)) (wordL_ne t (by omega)) (wordL i 2 ++ [1, 0, 0, 1, 0, 0, 0, 0, 0, 0] ++ encN ls) (by simp; omega) H b n
  have q4 := fun H b n => apB (isB_2 true 0 1) (by simp) (wordL i 2 ++ [1, 0, 0, 1, 0, 0, 0, 0, 0, 0] ++ encN ls ++ wordL t 2) (by simp; omega) H b n
  repeat' (first | ((first | refine wSeqr ?_ | refine wSeqrF ?_ | refine wIf ?_ | refine wReg ?_ | refine wRegF ?_ | (refine wRet ?_; (try simp only [thenQ, blockQ]); refine ends_by ?_)); intro xx hx; have hc := trivial; (repeat' (simp only [hc, Nat.reduceBEq, go_sem, Nat.reduceAdd, Nat.reduceMul, Nat.reduceSub, Nat.reduceEqDiff, Nat.reduceLT, Nat.reduceLeDiff, Int.reduceEq, Int.reduceLT, Int.reduceLE, reduceIte, aresults, aresult, hp0, hpi, hpt, hnm, lit10, chk10, q1, q2, q3, q4] at hx; (try ((first | rw [guardL_if] at hx | rw [guardF_if] at hx); split at hx <;> rename_i hc)))); all_goals (subst hx; first | (refine ⟨_, rfl, fun ht => ?_, fun ht => ?_⟩ <;> (try simp only [bbs] at ht)) | (refine ⟨_, rfl, ?_⟩; (try simp only [tupOf])))) | refine wSkip ?_ | (refine wExit ?_; simp only [thenQ, blockQ, reduceIte, Nat.reduceEqDiff]) | refine wSeq ?_ | refine wBlock ?_)
  all_goals try (exfalso; (try simp only [bbs] at *); first | omega | exact absurd trivial (by assumption))
  all_goals exact gO_bytes (new_same _ _)
theorem p_sl10Query (i t : Int) (ls : List ByteArray) (hi : 0 ≤ i ∧ i ≤ 65535) (htt : 0 ≤ t ∧ t ≤ 65535) (hk : labsOk ls) : pure Tryd.prog cfg0 56 Tryd.f56 [.fp [.v (.int .i64 i), textsL ls, .v (.int .i64 t)] 0] = some (bytesL (packB i ls t), true) := (pq_sl10Query i t ls hi htt hk).1
theorem c_sl10Query (i t : Int) (ls : List ByteArray) (hi : 0 ≤ i ∧ i ≤ 65535) (htt : 0 ≤ t ∧ t ≤ 65535) (hk : labsOk ls) : ∀ H, call Tryd.prog cfg0 0 56 [.fp [.v (.int .i64 i), textsL ls, .v (.int .i64 t)] 0] H = some (bytesL (packB i ls t), H) :=
  call_fz Tryd.func56 rfl ok_sl10Query rfl (by simp only [fz_cons, fz_nil, go_sem, fz_fq, and_self]) (pq_sl10Query i t ls hi htt hk).1
theorem o_sl10Query (i t : Int) (ls : List ByteArray) (hi : 0 ≤ i ∧ i ≤ 65535) (htt : 0 ≤ t ∧ t ≤ 65535) (hk : labsOk ls) : ∀ H, call Tryd.prog cfg0 1 56 [.fp [.v (.int .i64 i), textsL ls, .v (.int .i64 t)] 0] H = mat depthD (bytesL (packB i ls t)) H := fun H =>
  call_ofO Tryd.func56 rfl ok_sl10Query rfl (mapM_self fun x hx => ((show ∀ x ∈ ([.fp [.v (.int .i64 i), textsL ls, .v (.int .i64 t)] 0] : List AV), Fz depthD x by simp only [fz_cons, fz_nil, go_sem, fz_fq, and_self]) x hx).1 H) (pq_sl10Query i t ls hi htt hk).2

theorem deep_q {H : Hp} {q : Nat} {i t : Int} {ls : List ByteArray} (h : H.h q = some [.v (.int .i64 i), textsL ls, .v (.int .i64 t)]) : deep H depthD (.ptr q 0) = some (.fp [.v (.int .i64 i), textsL ls, .v (.int .i64 t)] 0) := by
  show ((H.h q).bind fun cs => (cs.mapM (deep H 11)).map fun ds => AV.fp ds 0) = _
  rw [h]
  have e : deep H 11 (textsL ls) = some (textsL ls) := (fz_rows (n := 10) (fun s x hx => by simp only [List.mem_singleton] at hx; subst hx; exact Fz.string _ _) ls : Fz 11 (textsL ls)).1 H
  simp only [Option.bind_some]
  rw [mapM_c (show deep H 11 (.v (.int .i64 i)) = some (.v (.int .i64 i)) from rfl) (mapM_c e (mapM_c (show deep H 11 (.v (.int .i64 t)) = some (.v (.int .i64 t)) from rfl) mapM_n))]
  rfl
open Classical in
theorem cp_Query (i t : Int) (ls : List ByteArray) (hi : 0 ≤ i ∧ i ≤ 65535) (htt : 0 ≤ t ∧ t ≤ 65535) (hk : labsOk ls) : ∀ H q, call Tryd.prog cfg0 0 56 [.ptr q 0] H = if H.h q = some [.v (.int .i64 i), textsL ls, .v (.int .i64 t)] then some (bytesL (packB i ls t), H) else call' Tryd.prog cfg0 0 56 [.ptr q 0] H := fun H q =>
  call_if Tryd.func56 rfl ok_sl10Query rfl (fun hC => mapM_c (deep_q hC) mapM_n) (p_sl10Query i t ls hi htt hk)
end
end Go.Proofs.YtnejoidfbgklbaaDoor
namespace Go.Proofs.YtnejoidfbgklbaaDoor
open Go Go.RowKit Go.Proofs.YtnejoidfbgklbaaDoor.Eng
set_option linter.unusedSimpArgs false
set_option linter.unusedVariables false
set_option maxRecDepth 100000
set_option maxHeartbeats 2000000
noncomputable section
theorem num2_rd {l : List Int} (hb : Eng.Bytes l) {p : Nat} (h : p + 2 ≤ l.length) : rdN ((l.drop p).take 2) = num2 l (p : Int) ∧ rdN ((l.drop p).take 2) ≤ 65535 := by
  have hw := bytes_sub hb p 2
  have hlen : ((l.drop p).take 2).length = 2 := by simp; omega
  have := rd_bound hw 2 (by omega)
  rw [List.take_of_length_le (by omega)] at this
  have h2 : rdN ((l.drop p).take 2) ≤ 65535 := by have := this.2; omega
  refine ⟨?_, h2⟩
  unfold num2 readWord
  rw [Int.toNat_natCast, if_pos h, if_pos (by omega)]
/-- What the reference asks. -/
def saR (l : List Int) : AV := if (nmR l 12 12 0 [] 0).1 = 0 ∧ (nmR l 12 12 0 [] 0).2.2 + 4 = l.length then .tup [.agg [.v (.int .i64 (num2 l 0)), textsL (nmR l 12 12 0 [] 0).2.1, .v (.int .i64 (num2 l (nmR l 12 12 0 [] 0).2.2))], .v (.bool (decide (packB (num2 l 0) (nmR l 12 12 0 [] 0).2.1 (num2 l (nmR l 12 12 0 [] 0).2.2) = l)))]
  else .tup [.agg [.v (.int .i64 0), textsL [], .v (.int .i64 0)], .v (.bool false)]
theorem d_sa (i t : Int) (ls : List ByteArray) (b : Bool) (H : Hp) : deep H depthD (.tup [.agg [.v (.int .i64 i), textsL ls, .v (.int .i64 t)], .v (.bool b)]) = some (.tup [.agg [.v (.int .i64 i), textsL ls, .v (.int .i64 t)], .v (.bool b)]) := by
  have e0 : deep H 10 (textsL ls) = some (textsL ls) := (fz_rows (n := 9) (fun s x hx => by simp only [List.mem_singleton] at hx; subst hx; exact Fz.string _ _) ls : Fz 10 (textsL ls)).1 H
  have e : deep H 11 (.agg [.v (.int .i64 i), textsL ls, .v (.int .i64 t)]) = some (.agg [.v (.int .i64 i), textsL ls, .v (.int .i64 t)]) := by
    show (List.mapM (deep H 10) _).map AV.agg = _
    rw [mapM_c (show deep H 10 (.v (.int .i64 i)) = some (.v (.int .i64 i)) from rfl) (mapM_c e0 (mapM_c (show deep H 10 (.v (.int .i64 t)) = some (.v (.int .i64 t)) from rfl) mapM_n))]
    rfl
  show (List.mapM (deep H 11) _).map AV.tup = _
  rw [mapM_c e (mapM_c (show deep H 11 (.v (.bool b)) = some (.v (.bool b)) from rfl) mapM_n)]
  rfl
theorem ok_sl10Ask : fnOk Tryd.prog cfg0 24 Tryd.f24 = true := by kernel_rfl
theorem p_sl10Ask (l : List Int) (hb : Eng.Bytes l) (hl : l.length ≤ 1048576) (h12 : 12 ≤ l.length) : ∃ cl, pure Tryd.prog cfg0 24 Tryd.f24 [bytesL l] = some (saR l, cl) := by
  have key : ∃ v cl, v = (saR l : AV) ∧ pure Tryd.prog cfg0 24 Tryd.f24 [bytesL l] = some (v, cl) := by
    refine pure_ex (rs := [.cell 2 52, .tmp 3]) rfl rfl ?_
    have hp0 : ∀ b, cfg0.pol 24 b = (if b = 34 then 3 else if b = 36 then 3 else if b = 1000000 then 2 else 0) := fun b => rfl
    have hrd := c_sl10Read l hb hl h12
    unfold srR at hrd
    obtain ⟨e1, e2, e3⟩ := nm_indep l 12 12 0 [] (-1) 0
    have e3 := e3 rfl
    rw [e1, e2] at hrd
    rw [e1] at e3
    by_cases hz : (nmR l 12 12 0 [] 0).1 = 0
    rotate_left
    · rw [show saR l = .tup [.agg [.v (.int .i64 0), textsL [], .v (.int .i64 0)], .v (.bool false)] from if_neg (fun h => hz h.1)]
      have tx := tx_ok (nmR l 12 12 0 [] 0).2.1
      generalize (nmR l 12 12 0 [] (-1)).2.2 = nx at *
      generalize (nmR l 12 12 0 [] 0).2.1 = ls at *
      repeat' (first | ((first | refine wSeqr ?_ | refine wSeqrF ?_ | refine wIf ?_ | refine wReg ?_ | refine wRegF ?_ | (refine wRet ?_; (try simp only [thenQ, blockQ]); refine ends_by ?_)); intro xx hx; have hc := trivial; (repeat' (simp only [hc, Nat.reduceBEq, go_sem, Nat.reduceAdd, Nat.reduceMul, Nat.reduceSub, Nat.reduceEqDiff, Nat.reduceLT, Nat.reduceLeDiff, Int.reduceEq, Int.reduceLT, Int.reduceLE, reduceIte, aresults, aresult, hp0, hrd, hz, tx.1, tx.2] at hx; (try ((first | rw [guardL_if] at hx | rw [guardF_if] at hx); split at hx <;> rename_i hc)))); all_goals (subst hx; first | (refine ⟨_, rfl, fun ht => ?_, fun ht => ?_⟩ <;> (try simp only [bbs] at ht)) | (refine ⟨_, rfl, ?_⟩; (try simp only [tupOf])))) | refine wSkip ?_ | (refine wExit ?_; simp only [thenQ, blockQ, reduceIte, Nat.reduceEqDiff]) | refine wSeq ?_ | refine wBlock ?_)
      all_goals try (exfalso; (try simp only [bbs] at *); first | omega | exact absurd trivial (by assumption))
      all_goals exact dirty rfl
    rw [e3 hz, hz] at hrd
    obtain ⟨hk, hx0, hx1⟩ := nm_ok l 12 12 0 [] 0 ⟨by simp, by simp⟩ (by simp) hz
    by_cases hend : (nmR l 12 12 0 [] 0).2.2 + 4 = l.length
    rotate_left
    · rw [show saR l = .tup [.agg [.v (.int .i64 0), textsL [], .v (.int .i64 0)], .v (.bool false)] from if_neg (fun h => hend h.2)]
      have tx := tx_ok (nmR l 12 12 0 [] 0).2.1
      have w4 : IntKind.wrap .i64 ((nmR l 12 12 0 [] 0).2.2 + 4) = (nmR l 12 12 0 [] 0).2.2 + 4 := wrap_i64 (by omega) (by omega)
      generalize (nmR l 12 12 0 [] 0).2.2 = nx at *
      generalize (nmR l 12 12 0 [] 0).2.1 = ls at *
      repeat' (first | ((first | refine wSeqr ?_ | refine wSeqrF ?_ | refine wIf ?_ | refine wReg ?_ | refine wRegF ?_ | (refine wRet ?_; (try simp only [thenQ, blockQ]); refine ends_by ?_)); intro xx hx; have hc := trivial; (repeat' (simp only [hc, Nat.reduceBEq, go_sem, Nat.reduceAdd, Nat.reduceMul, Nat.reduceSub, Nat.reduceEqDiff, Nat.reduceLT, Nat.reduceLeDiff, Int.reduceEq, Int.reduceLT, Int.reduceLE, reduceIte, aresults, aresult, hp0, hrd, w4, hend, tx.1, tx.2] at hx; (try ((first | rw [guardL_if] at hx | rw [guardF_if] at hx); split at hx <;> rename_i hc)))); all_goals (subst hx; first | (refine ⟨_, rfl, fun ht => ?_, fun ht => ?_⟩ <;> (try simp only [bbs] at ht)) | (refine ⟨_, rfl, ?_⟩; (try simp only [tupOf])))) | refine wSkip ?_ | (refine wExit ?_; simp only [thenQ, blockQ, reduceIte, Nat.reduceEqDiff]) | refine wSeq ?_ | refine wBlock ?_)
      all_goals try (exfalso; (try simp only [bbs] at *); first | omega | exact absurd trivial (by assumption))
      all_goals exact dirty rfl
    rw [show saR l = _ from if_pos ⟨hz, hend⟩]
    have w4 : IntKind.wrap .i64 ((nmR l 12 12 0 [] 0).2.2 + 4) = (l.length : Int) := by rw [wrap_i64 (by omega) (by omega)]; exact hend
    obtain ⟨p, hp⟩ : ∃ p : Nat, (nmR l 12 12 0 [] 0).2.2 = (p : Int) := ⟨(nmR l 12 12 0 [] 0).2.2.toNat, by omega⟩
    have b0 := num2_b hb 0
    have b1 := num2_b hb (nmR l 12 12 0 [] 0).2.2
    rw [hp] at hrd w4 b1 hend ⊢
    have r0 := num2_rd hb (p := 0) (by omega)
    have r1 := num2_rd hb (p := p) (by omega)
    have hr0 := c_sl1Read l 0 2 0 2 rfl rfl hb (by omega) hl (by omega)
    have hr1 := c_sl1Read l p 2 p 2 rfl rfl hb (by omega) hl (by omega)
    rw [r0.1] at hr0
    rw [r1.1] at hr1
    have hqq := cp_Query (num2 l 0) (num2 l (p : Int)) (nmR l 12 12 0 [] 0).2.1 b0 b1 hk
    have hpb : Eng.Bytes (packB (num2 l 0) (nmR l 12 12 0 [] 0).2.1 (num2 l (p : Int))) := by
      unfold packB
      refine bytes_app (bytes_app (bytes_app (bytes_app (wordL_bytes _ _) ?_) (encN_bytes _)) (wordL_bytes _ _)) ?_ <;> (intro z hz; simp only [List.mem_cons, List.not_mem_nil, or_false] at hz; omega)
    have hse := strOf_eq hpb hb
    have hr0' : ∀ H, call Tryd.prog cfg0 0 22 [bytesL l, .v (.int .i64 0), .v (.int .i64 2)] H = some (.v (.int .i64 (num2 l 0)), H) := hr0
    have tx := tx_ok (nmR l 12 12 0 [] 0).2.1
    have cvb := conv_bytesL u22 u9 u5
    generalize (nmR l 12 12 0 [] 0).2.1 = ls at *
    generalize num2 l 0 = i at *
    generalize num2 l (p : Int) = t at *
    repeat' (first | ((first | refine wSeqr ?_ | refine wSeqrF ?_ | refine wIf ?_ | refine wReg ?_ | refine wRegF ?_ | (refine wRet ?_; (try simp only [thenQ, blockQ]); refine ends_by ?_)); intro xx hx; have hc := trivial; (repeat' (simp only [hc, Nat.reduceBEq, go_sem, Nat.reduceAdd, Nat.reduceMul, Nat.reduceSub, Nat.reduceEqDiff, Nat.reduceLT, Nat.reduceLeDiff, Int.reduceEq, Int.reduceLT, Int.reduceLE, reduceIte, aresults, aresult, hp0, hrd, w4, hr0', hr1, hqq, cvb, hse, tx.1, tx.2] at hx; (try ((first | rw [guardL_if] at hx | rw [guardF_if] at hx); split at hx <;> rename_i hc)))); all_goals (subst hx; first | (refine ⟨_, rfl, fun ht => ?_, fun ht => ?_⟩ <;> (try simp only [bbs] at ht)) | (refine ⟨_, rfl, ?_⟩; (try simp only [tupOf])))) | refine wSkip ?_ | (refine wExit ?_; simp only [thenQ, blockQ, reduceIte, Nat.reduceEqDiff]) | refine wSeq ?_ | refine wBlock ?_)
    all_goals try (exfalso; (try simp only [bbs] at *); first | omega | exact absurd trivial (by assumption))
    all_goals exact dirty (d_sa _ _ _ _ _)
  obtain ⟨v, cl, rfl, hp⟩ := key
  exact ⟨cl, hp⟩
theorem c_sl10Ask (l : List Int) (hb : Eng.Bytes l) (hl : l.length ≤ 1048576) (h12 : 12 ≤ l.length) : ∀ H, call Tryd.prog cfg0 0 24 [bytesL l] H = some (saR l, H) := fun H => by
  obtain ⟨cl, hp⟩ := p_sl10Ask l hb hl h12
  exact call_fz Tryd.func24 rfl ok_sl10Ask rfl (by simp only [fz_cons, fz_nil, go_sem, and_self]) hp H

theorem ok_sReadQuery : fnOk Tryd.prog cfg0 70 Tryd.f70 = true := by kernel_rfl
theorem p_sReadQuery (l : List Int) (hb : Eng.Bytes l) (hl : l.length ≤ 1048576) : ∃ cl, pure Tryd.prog cfg0 70 Tryd.f70 [bytesL l] = some (rqR l, cl) := by
  have key : ∃ v cl, v = (rqR l : AV) ∧ pure Tryd.prog cfg0 70 Tryd.f70 [bytesL l] = some (v, cl) := by
    refine pure_ex (rs := [.cell 2 105]) rfl rfl ?_
    have hp0 : ∀ b, cfg0.pol 70 b = 0 := fun b => rfl
    by_cases h12 : 12 ≤ l.length ∧ l.length ≤ 300
    rotate_left
    · rw [show rqR l = qrR 2 0 [] 0 from if_neg h12]
      unfold qrR
      by_cases h1 : ((l.length : Nat) : Int) < 12
      · repeat' (first | ((first | refine wSeqr ?_ | refine wSeqrF ?_ | refine wIf ?_ | refine wReg ?_ | refine wRegF ?_ | (refine wRet ?_; (try simp only [thenQ, blockQ]); refine ends_by ?_)); intro xx hx; have hc := trivial; (repeat' (simp only [hc, Nat.reduceBEq, go_sem, Nat.reduceAdd, Nat.reduceMul, Nat.reduceSub, Nat.reduceEqDiff, Nat.reduceLT, Nat.reduceLeDiff, Int.reduceEq, Int.reduceLT, Int.reduceLE, reduceIte, aresults, aresult, hp0, h1] at hx; (try ((first | rw [guardL_if] at hx | rw [guardF_if] at hx); split at hx <;> rename_i hc)))); all_goals (subst hx; first | (refine ⟨_, rfl, fun ht => ?_, fun ht => ?_⟩ <;> (try simp only [bbs] at ht)) | (refine ⟨_, rfl, ?_⟩; (try simp only [tupOf])))) | refine wSkip ?_ | (refine wExit ?_; simp only [thenQ, blockQ, reduceIte, Nat.reduceEqDiff]) | refine wSeq ?_ | refine wBlock ?_)
        all_goals try (exfalso; (try simp only [bbs] at *); first | omega | exact absurd trivial (by assumption))
        all_goals exact dirty rfl
      · have h2 : 300 < ((l.length : Nat) : Int) := by omega
        repeat' (first | ((first | refine wSeqr ?_ | refine wSeqrF ?_ | refine wIf ?_ | refine wReg ?_ | refine wRegF ?_ | (refine wRet ?_; (try simp only [thenQ, blockQ]); refine ends_by ?_)); intro xx hx; have hc := trivial; (repeat' (simp only [hc, Nat.reduceBEq, go_sem, Nat.reduceAdd, Nat.reduceMul, Nat.reduceSub, Nat.reduceEqDiff, Nat.reduceLT, Nat.reduceLeDiff, Int.reduceEq, Int.reduceLT, Int.reduceLE, reduceIte, aresults, aresult, hp0, h1, h2] at hx; (try ((first | rw [guardL_if] at hx | rw [guardF_if] at hx); split at hx <;> rename_i hc)))); all_goals (subst hx; first | (refine ⟨_, rfl, fun ht => ?_, fun ht => ?_⟩ <;> (try simp only [bbs] at ht)) | (refine ⟨_, rfl, ?_⟩; (try simp only [tupOf])))) | refine wSkip ?_ | (refine wExit ?_; simp only [thenQ, blockQ, reduceIte, Nat.reduceEqDiff]) | refine wSeq ?_ | refine wBlock ?_)
        all_goals try (exfalso; (try simp only [bbs] at *); first | omega | exact absurd trivial (by assumption))
        all_goals exact dirty rfl
    have i1 : ¬ ((l.length : Nat) : Int) < 12 := by omega
    have i2 : ¬ 300 < ((l.length : Nat) : Int) := by omega
    rw [show rqR l = (match askF l with
      | some (i, ls, t) => qrR 0 i ls t
      | none => qrR 1 0 [] 0) from if_pos h12]
    have ha := c_sl10Ask l hb hl h12.1
    by_cases hc1 : (nmR l 12 12 0 [] 0).1 = 0 ∧ (nmR l 12 12 0 [] 0).2.2 + 4 = l.length
    · rw [show saR l = _ from if_pos hc1] at ha
      have tx := tx_ok (nmR l 12 12 0 [] 0).2.1
      by_cases he : packB (num2 l 0) (nmR l 12 12 0 [] 0).2.1 (num2 l (nmR l 12 12 0 [] 0).2.2) = l
      · rw [show askF l = _ from if_pos ⟨hc1.1, he⟩, decide_eq_true he] at *
        simp only
        unfold qrR
        generalize (nmR l 12 12 0 [] 0).2.1 = ls at *
        generalize num2 l 0 = i at *
        generalize num2 l (nmR l 12 12 0 [] 0).2.2 = t at *
        repeat' (first | ((first | refine wSeqr ?_ | refine wSeqrF ?_ | refine wIf ?_ | refine wReg ?_ | refine wRegF ?_ | (refine wRet ?_; (try simp only [thenQ, blockQ]); refine ends_by ?_)); intro xx hx; have hc := trivial; (repeat' (simp only [hc, Nat.reduceBEq, go_sem, Nat.reduceAdd, Nat.reduceMul, Nat.reduceSub, Nat.reduceEqDiff, Nat.reduceLT, Nat.reduceLeDiff, Int.reduceEq, Int.reduceLT, Int.reduceLE, reduceIte, aresults, aresult, hp0, i1, i2, ha, tx.1, tx.2] at hx; (try ((first | rw [guardL_if] at hx | rw [guardF_if] at hx); split at hx <;> rename_i hc)))); all_goals (subst hx; first | (refine ⟨_, rfl, fun ht => ?_, fun ht => ?_⟩ <;> (try simp only [bbs] at ht)) | (refine ⟨_, rfl, ?_⟩; (try simp only [tupOf])))) | refine wSkip ?_ | (refine wExit ?_; simp only [thenQ, blockQ, reduceIte, Nat.reduceEqDiff]) | refine wSeq ?_ | refine wBlock ?_)
        all_goals try (exfalso; (try simp only [bbs] at *); first | omega | exact absurd trivial (by assumption))
        all_goals exact dirty (fz_deep (fz_qr _ _ _ _) _)
      · rw [show askF l = none from if_neg (fun h => he h.2), decide_eq_false he] at *
        simp only
        unfold qrR
        generalize (nmR l 12 12 0 [] 0).2.1 = ls at *
        generalize num2 l 0 = i at *
        generalize num2 l (nmR l 12 12 0 [] 0).2.2 = t at *
        repeat' (first | ((first | refine wSeqr ?_ | refine wSeqrF ?_ | refine wIf ?_ | refine wReg ?_ | refine wRegF ?_ | (refine wRet ?_; (try simp only [thenQ, blockQ]); refine ends_by ?_)); intro xx hx; have hc := trivial; (repeat' (simp only [hc, Nat.reduceBEq, go_sem, Nat.reduceAdd, Nat.reduceMul, Nat.reduceSub, Nat.reduceEqDiff, Nat.reduceLT, Nat.reduceLeDiff, Int.reduceEq, Int.reduceLT, Int.reduceLE, reduceIte, aresults, aresult, hp0, i1, i2, ha, tx.1, tx.2] at hx; (try ((first | rw [guardL_if] at hx | rw [guardF_if] at hx); split at hx <;> rename_i hc)))); all_goals (subst hx; first | (refine ⟨_, rfl, fun ht => ?_, fun ht => ?_⟩ <;> (try simp only [bbs] at ht)) | (refine ⟨_, rfl, ?_⟩; (try simp only [tupOf])))) | refine wSkip ?_ | (refine wExit ?_; simp only [thenQ, blockQ, reduceIte, Nat.reduceEqDiff]) | refine wSeq ?_ | refine wBlock ?_)
        all_goals try (exfalso; (try simp only [bbs] at *); first | omega | exact absurd trivial (by assumption))
        all_goals exact dirty rfl
    · rw [show saR l = _ from if_neg hc1] at ha
      have tx := tx_ok []
      have hno : askF l = none := by
        unfold askF
        rw [if_neg]
        rintro ⟨hz, hp⟩
        exact hc1 ⟨hz, ask_end hz hp⟩
      rw [hno]
      simp only
      unfold qrR
      repeat' (first | ((first | refine wSeqr ?_ | refine wSeqrF ?_ | refine wIf ?_ | refine wReg ?_ | refine wRegF ?_ | (refine wRet ?_; (try simp only [thenQ, blockQ]); refine ends_by ?_)); intro xx hx; have hc := trivial; (repeat' (simp only [hc, Nat.reduceBEq, go_sem, Nat.reduceAdd, Nat.reduceMul, Nat.reduceSub, Nat.reduceEqDiff, Nat.reduceLT, Nat.reduceLeDiff, Int.reduceEq, Int.reduceLT, Int.reduceLE, reduceIte, aresults, aresult, hp0, i1, i2, ha, tx.1, tx.2] at hx; (try ((first | rw [guardL_if] at hx | rw [guardF_if] at hx); split at hx <;> rename_i hc)))); all_goals (subst hx; first | (refine ⟨_, rfl, fun ht => ?_, fun ht => ?_⟩ <;> (try simp only [bbs] at ht)) | (refine ⟨_, rfl, ?_⟩; (try simp only [tupOf])))) | refine wSkip ?_ | (refine wExit ?_; simp only [thenQ, blockQ, reduceIte, Nat.reduceEqDiff]) | refine wSeq ?_ | refine wBlock ?_)
      all_goals try (exfalso; (try simp only [bbs] at *); first | omega | exact absurd trivial (by assumption))
      all_goals exact dirty rfl
  obtain ⟨v, cl, rfl, hp⟩ := key
  exact ⟨cl, hp⟩
theorem c_sReadQuery (l : List Int) (hb : Eng.Bytes l) (hl : l.length ≤ 1048576) : ∀ H, call Tryd.prog cfg0 0 70 [bytesL l] H = some (rqR l, H) := fun H => by
  obtain ⟨cl, hp⟩ := p_sReadQuery l hb hl
  exact call_fz Tryd.func70 rfl ok_sReadQuery rfl (by simp only [fz_cons, fz_nil, go_sem, and_self]) hp H

end
end Go.Proofs.YtnejoidfbgklbaaDoor
namespace Go.Proofs.YtnejoidfbgklbaaDoor
open Go Go.RowKit Go.Proofs.YtnejoidfbgklbaaDoor.Eng
set_option linter.unusedSimpArgs false
set_option linter.unusedVariables false
set_option maxRecDepth 100000
set_option maxHeartbeats 2000000
noncomputable section
def digS (n : Int) : ByteArray := ⟨#[UInt8.ofNat (48 + n).toNat]⟩
def nodeS (n : Int) : ByteArray := ⟨#[110, UInt8.ofNat (48 + n).toNat]⟩
theorem node_all (n : Int) (h : 0 ≤ n ∧ n ≤ 3) : (⟨(Lib.itoa n).toArray⟩ : ByteArray) = digS n ∧ (⟨#[110]⟩ : ByteArray) ++ digS n = nodeS n ∧ labsOk [nodeS n] ∧ encN [nodeS n] = [2, 110, 48 + n, 0] := by
  have : n = 0 ∨ n = 1 ∨ n = 2 ∨ n = 3 := by omega
  rcases this with rfl | rfl | rfl | rfl <;> refine ⟨by kernel_rfl, by kernel_rfl, ⟨by simp, fun s hs => ?_⟩, by kernel_rfl⟩ <;> (simp only [List.mem_singleton] at hs; subst hs; kernel_rfl)
theorem conv_one (z : Int) (H : Hp) : aconv Tryd.prog H 22 9 (.lst true [[.v (.int .u8 z)]]) = some (.v (.string ⟨#[UInt8.ofNat z.toNat]⟩)) := by
  simp [aconv, u22, u9, u5, bytesIn]
theorem wrap_u8 {z : Int} (h1 : 0 ≤ z) (h2 : z ≤ 255) : IntKind.wrap .u8 z = z := by rw [wrap8]; omega
theorem ok_sl1Digits : fnOk Tryd.prog cfg0 77 Tryd.f77 = true := by kernel_rfl
theorem p_sl1Digits (n : Int) (hn : 0 ≤ n ∧ n ≤ 9) : pure Tryd.prog cfg0 77 Tryd.f77 [.v (.int .i64 n)] = some (.v (.string (digS n)), true) := by
  refine pure_wp (rs := [.tmp 2]) rfl rfl ?_
  have hp0 : ∀ b, cfg0.pol 77 b = 0 := fun b => rfl
  have h' : n < 10 := by omega
  have w1 : IntKind.wrap .i64 (48 + n) = 48 + n := wrap_i64 (by omega) (by omega)
  have w2 : IntKind.wrap .u8 (48 + n) = 48 + n := wrap_u8 (by omega) (by omega)
  repeat' (first | ((first | refine wSeqr ?_ | refine wSeqrF ?_ | refine wIf ?_ | refine wReg ?_ | refine wRegF ?_ | (refine wRet ?_; (try simp only [thenQ, blockQ]); refine ends_by ?_)); intro xx hx; have hc := trivial; (repeat' (simp only [hc, Nat.reduceBEq, go_sem, Nat.reduceAdd, Nat.reduceMul, Nat.reduceSub, Nat.reduceEqDiff, Nat.reduceLT, Nat.reduceLeDiff, Int.reduceEq, Int.reduceLT, Int.reduceLE, reduceIte, aresults, aresult, hp0, w1, w2, conv_one, aconv_int u2 u5, h'] at hx; (try ((first | rw [guardL_if] at hx | rw [guardF_if] at hx); split at hx <;> rename_i hc)))); all_goals (subst hx; first | (refine ⟨_, rfl, fun ht => ?_, fun ht => ?_⟩ <;> (try simp only [bbs] at ht)) | (refine ⟨_, rfl, ?_⟩; (try simp only [tupOf])))) | refine wSkip ?_ | (refine wExit ?_; simp only [thenQ, blockQ, reduceIte, Nat.reduceEqDiff]) | refine wSeq ?_ | refine wBlock ?_)
  all_goals exact ⟨rfl, rfl⟩
theorem c_sl1Digits (n : Int) (hn : 0 ≤ n ∧ n ≤ 9) : ∀ H, call Tryd.prog cfg0 0 77 [.v (.int .i64 n)] H = some (.v (.string (digS n)), H) :=
  call_fz Tryd.func77 rfl ok_sl1Digits rfl (by simp only [fz_cons, fz_nil, go_sem, and_self]) (p_sl1Digits n hn)

theorem apL2 {y : AV} {l : List Int} (hy : isB y l) (hne : l ≠ []) (hl : l.length ≤ 1048576) (k m : Int) (H : Hp) : aappend Tryd.prog H [22, 22] (.lst true [[.v (.int .u8 k)], [.v (.int .u8 m)]]) y = some (.sl H.g 1 0 ([k, m] ++ l).length, H.new (([k, m] ++ l).map cell)) := by
  have z8 : zeroOf Tryd.prog 5 = some [cell 0] := zero5
  simp only [aappend, el22, z8, by5, Option.bind_some, happ_b hy int22]
  have hl0 : l.length ≠ 0 := fun e => hne (List.length_eq_zero_iff.1 e)
  rw [if_neg hl0, if_neg (by simp), if_pos ⟨by simp, roomy_1 (by simp; omega)⟩]
  simp [cell, Nat.add_comm]
  omega
theorem dz_tx (s : ByteArray) : Dzs depthD [.lst true [[.v (.string s)]]] [textsL [s]] := Dzs.cons (Dz.lst (n := 11) (xs := [[.v (.string s)]]) fun c hc x hx => by
  simp only [List.mem_singleton] at hc; subst hc
  simp only [List.mem_singleton] at hx; subst hx; exact Fz.string _ _) Dzs.nil
theorem cz_sName (s : ByteArray) (hk : labsOk [s]) : ∀ H, call Tryd.prog cfg0 0 76 [.lst true [[.v (.string s)]]] H = some (bytesL (encN [s]), H) := fun H =>
  call_dz Tryd.func76 rfl ok_sl10Name rfl (dz_tx s) (p_sl10Name [s] hk) H
theorem cz_iName (s : ByteArray) (hk : labsOk [s]) : ∀ H, call Tryd.prog cfg0 0 66 [.lst true [[.v (.string s)]]] H = some (.agg [.v (.int .i64 0), bytesL (encN [s])], H) := fun H =>
  call_dz Tryd.func66 rfl ok_iEncodeName rfl (dz_tx s) (p_iEncodeName [s] hk) H
theorem fz_fr (r : RecordM) : Fz depthD (.fp (encRecord r) 0) := Fz.fp (n := 11) (fzE_Record 10 r)
theorem w2_0 : wordL 0 2 = [0, 0] := by decide
theorem w2_1 : wordL 1 2 = [0, 1] := by decide
theorem w2_4 : wordL 4 2 = [0, 4] := by decide
theorem w2_10 : wordL 10 2 = [0, 10] := by decide
theorem w2_30 : wordL 30 2 = [0, 30] := by decide
theorem w2_33 : wordL 33 2 = [0, 33] := by decide
end
end Go.Proofs.YtnejoidfbgklbaaDoor
namespace Go.Proofs.YtnejoidfbgklbaaDoor
open Go Go.RowKit Go.Proofs.YtnejoidfbgklbaaDoor.Eng
set_option linter.unusedSimpArgs false
set_option linter.unusedVariables false
set_option maxRecDepth 100000
set_option maxHeartbeats 2000000
noncomputable section
theorem rec_1 {r : RecordM} (h : r.Type_ = 1) : recB r = [192, 12] ++ (wordL 1 2 ++ (wordL 1 2 ++ (wordL 0 2 ++ wordL 30 2))) ++ (wordL 4 2 ++ [10, 0, 0, r.Node]) := by
  unfold recB; rw [if_pos h, h, w2_0, w2_1, w2_4, w2_30]; rfl
theorem rec_33 {r : RecordM} (h : r.Type_ = 33) : recB r = [192, 12] ++ (wordL 33 2 ++ (wordL 1 2 ++ (wordL 0 2 ++ wordL 30 2))) ++ ((wordL 10 2 ++ (wordL 0 2 ++ (wordL 0 2 ++ wordL r.Port 2))) ++ [2, 110, 48 + r.Node, 0]) := by
  unfold recB; rw [if_neg (by omega), h, w2_0, w2_1, w2_10, w2_30, w2_33]; simp
theorem ok_iRecord_encoded : fnOk Tryd.prog cfg0 40 Tryd.f40 = true := by kernel_rfl
theorem p_iRecord_encoded (r : RecordM) (hro : recOk r) : ∃ cl, pure Tryd.prog cfg0 40 Tryd.f40 [.agg [.v (.int .i64 r.Type_), .v (.int .i64 r.Node), .v (.int .i64 r.Port)]] = some (bytesL (recB r), cl) := by
  have key : ∃ v cl, v = (bytesL (recB r) : AV) ∧ pure Tryd.prog cfg0 40 Tryd.f40 [.agg [.v (.int .i64 r.Type_), .v (.int .i64 r.Node), .v (.int .i64 r.Port)]] = some (v, cl) := by
    refine pure_ex (rs := [.tmp 2]) rfl rfl ?_
    have hp0 : ∀ b, cfg0.pol 40 b = 0 := fun b => rfl
    obtain ⟨hty, hno, hpo⟩ := hro
    obtain ⟨n1, n2, n3, n4⟩ := node_all r.Node hno
    have hnm : r.Node % 256 = r.Node := by omega
    rcases hty with hk | hk
    · have s4 := sh4 1 1 0 30 (by omega) (by omega) (by omega) (by omega)
      have s1 := sh1 4 (by omega)
      have c2 := cat2 (x := .lst true [[.v (.int .u8 192)], [.v (.int .u8 12)]]) (y := bytesL (wordL 1 2 ++ (wordL 1 2 ++ (wordL 0 2 ++ wordL 30 2)))) dz2 dzB (by simp [wordL_len])
      have c3 := cat3 (x := bytesL ([192, 12] ++ (wordL 1 2 ++ (wordL 1 2 ++ (wordL 0 2 ++ wordL 30 2))))) (y := bytesL (wordL 4 2)) (z := .lst true [[.v (.int .u8 10)], [.v (.int .u8 0)], [.v (.int .u8 0)], [.v (.int .u8 r.Node)]]) dzB dzB dz4 (by simp [wordL_len])
      rw [← rec_1 hk] at c3
      repeat' (first | ((first | refine wSeqr ?_ | refine wIf ?_ | refine wReg ?_ | (refine wRet ?_; (try simp only [thenQ, blockQ]); refine ends_by ?_)); intro xx hx; have hc := trivial; (repeat' (simp only [hc, Nat.reduceBEq, go_sem, Nat.reduceAdd, Nat.reduceMul, Nat.reduceSub, Nat.reduceEqDiff, Nat.reduceLT, Nat.reduceLeDiff, Int.reduceEq, Int.reduceLT, Int.reduceLE, reduceIte, aresults, aresult, hp0, hk, s4, s1, c2, c3, wrap8, hnm, aconv_int u2 u5] at hx; (try (rw [guardL_if] at hx; split at hx <;> rename_i hc)))); all_goals (subst hx; first | (refine ⟨_, rfl, fun ht => ?_, fun ht => ?_⟩ <;> (try simp only [bbs] at ht)) | (refine ⟨_, rfl, ?_⟩; (try simp only [tupOf])))) | refine wSkip ?_ | (refine wExit ?_; simp only [thenQ, blockQ, reduceIte, Nat.reduceEqDiff]) | refine wSeq ?_ | refine wBlock ?_)
      all_goals try (exfalso; (try simp only [bbs] at *); first | omega | exact absurd trivial (by assumption))
      all_goals exact dirty (fz_deep (bytesL_fz 10 _) _)
    · have s4 := sh4 33 1 0 30 (by omega) (by omega) (by omega) (by omega)
      have s1 := sh4 10 0 0 r.Port (by omega) (by omega) (by omega) (by omega)
      have c2 := cat2 (x := .lst true [[.v (.int .u8 192)], [.v (.int .u8 12)]]) (y := bytesL (wordL 33 2 ++ (wordL 1 2 ++ (wordL 0 2 ++ wordL 30 2)))) dz2 dzB (by simp [wordL_len])
      have c3 := cat3 (x := bytesL ([192, 12] ++ (wordL 33 2 ++ (wordL 1 2 ++ (wordL 0 2 ++ wordL 30 2))))) (y := bytesL (wordL 10 2 ++ (wordL 0 2 ++ (wordL 0 2 ++ wordL r.Port 2)))) (z := bytesL [2, 110, 48 + r.Node, 0]) dzB dzB dzB (by simp [wordL_len])
      rw [← rec_33 hk] at c3
      have fi := c_FormatInt r.Node ⟨by omega, by omega⟩
      unfold itoaT at fi
      rw [n1] at fi
      have en := cz_iName (nodeS r.Node) n3
      rw [n4] at en
      have z1 : (⟨#[110]⟩ : ByteArray).size + (digS r.Node).size ≤ 4611686018427387904 := by show (1 + 1 : Nat) ≤ _; omega
      have z2 : (#[110] : Array UInt8).size + (digS r.Node).size ≤ 4611686018427387904 := z1
      have z3 : 1 + (digS r.Node).size ≤ 4611686018427387904 := z1
      generalize digS r.Node = dg at *
      repeat' (first | ((first | refine wSeqr ?_ | refine wIf ?_ | refine wReg ?_ | (refine wRet ?_; (try simp only [thenQ, blockQ]); refine ends_by ?_)); intro xx hx; have hc := trivial; (repeat' (simp only [hc, Nat.reduceBEq, go_sem, Nat.reduceAdd, Nat.reduceMul, Nat.reduceSub, Nat.reduceEqDiff, Nat.reduceLT, Nat.reduceLeDiff, Int.reduceEq, Int.reduceLT, Int.reduceLE, reduceIte, aresults, aresult, hp0, hk, s4, s1, c2, c3, fi, n2, z1, z2, z3, en] at hx; (try (rw [guardL_if] at hx; split at hx <;> rename_i hc)))); all_goals (subst hx; first | (refine ⟨_, rfl, fun ht => ?_, fun ht => ?_⟩ <;> (try simp only [bbs] at ht)) | (refine ⟨_, rfl, ?_⟩; (try simp only [tupOf])))) | refine wSkip ?_ | (refine wExit ?_; simp only [thenQ, blockQ, reduceIte, Nat.reduceEqDiff]) | refine wSeq ?_ | refine wBlock ?_)
      all_goals try (exfalso; (try simp only [bbs] at *); first | omega | exact absurd trivial (by assumption))
      all_goals exact dirty (fz_deep (bytesL_fz 10 _) _)
  obtain ⟨v, cl, rfl, hp⟩ := key
  exact ⟨cl, hp⟩
theorem c_iRecord_encoded (r : RecordM) (hro : recOk r) : ∀ H, call Tryd.prog cfg0 0 40 [.agg [.v (.int .i64 r.Type_), .v (.int .i64 r.Node), .v (.int .i64 r.Port)]] H = some (bytesL (recB r), H) := fun H => by
  obtain ⟨cl, hp⟩ := p_iRecord_encoded r hro
  exact call_fz Tryd.func40 rfl ok_iRecord_encoded rfl (by simp only [fz_cons, fz_nil, go_sem, and_self]) hp H

end
end Go.Proofs.YtnejoidfbgklbaaDoor
namespace Go.Proofs.YtnejoidfbgklbaaDoor
open Go Go.RowKit Go.Proofs.YtnejoidfbgklbaaDoor.Eng
set_option linter.unusedSimpArgs false
set_option linter.unusedVariables false
set_option maxRecDepth 100000
set_option maxHeartbeats 2000000
noncomputable section
theorem ok_sl10Record : fnOk Tryd.prog cfg0 58 Tryd.f58 = true := by kernel_rfl
theorem pq_sl10Record (r : RecordM) (hro : recOk r) : pure Tryd.prog cfg0 58 Tryd.f58 [.fp (encRecord r) 0] = some (bytesL (recB r), true) ∧ owned Tryd.prog cfg0 58 Tryd.f58 [.fp (encRecord r) 0] = some (bytesL (recB r)) := by
  refine both_wp (rs := [.tmp 2]) rfl rfl ?_
  have hp0 : ∀ b, cfg0.pol 58 b = (if b = 33 then 3 else if b = 1000000 then 2 else 0) := fun b => rfl
  obtain ⟨hty, hno, hpo⟩ := hro
  obtain ⟨n1, n2, n3, n4⟩ := node_all r.Node hno
  have hnm : r.Node % 256 = r.Node := by omega
  rcases hty with hk | hk
  · have p1 := c_sl10Pair 1 (by omega)
    have q1 := fun H => apL2 (isB_l (wordL 1 2)) (wordL_ne 1 (by omega)) (by simp [wordL_len]) 192 12 H
    have q2 := fun H b n => apB (y := .lst true [[.v (.int .u8 0)], [.v (.int .u8 1)], [.v (.int .u8 0)], [.v (.int .u8 0)], [.v (.int .u8 0)], [.v (.int .u8 30)]]) (l := [0, 1, 0, 0, 0, 30]) ⟨true, rfl⟩ (by simp) ([192, 12] ++ wordL 1 2) (by simp [wordL_len]) H b n
    have q3 := fun H b n => apB (y := .lst true [[.v (.int .u8 0)], [.v (.int .u8 4)], [.v (.int .u8 10)], [.v (.int .u8 0)], [.v (.int .u8 0)], [.v (.int .u8 r.Node)]]) (l := [0, 4, 10, 0, 0, r.Node]) ⟨true, rfl⟩ (by simp) ([192, 12] ++ wordL 1 2 ++ [0, 1, 0, 0, 0, 30]) (by simp [wordL_len]) H b n
    have e : [192, 12] ++ wordL 1 2 ++ [0, 1, 0, 0, 0, 30] ++ [0, 4, 10, 0, 0, r.Node] = recB r := by unfold recB; rw [if_pos hk, hk, w2_1]; rfl
    repeat' (first | ((first | refine wSeqr ?_ | refine wSeqrF ?_ | refine wIf ?_ | refine wReg ?_ | refine wRegF ?_ | (refine wRet ?_; (try simp only [thenQ, blockQ]); refine ends_by ?_)); intro xx hx; have hc := trivial; (repeat' (simp only [hc, Nat.reduceBEq, go_sem, Nat.reduceAdd, Nat.reduceMul, Nat.reduceSub, Nat.reduceEqDiff, Nat.reduceLT, Nat.reduceLeDiff, Int.reduceEq, Int.reduceLT, Int.reduceLE, reduceIte, aresults, aresult, hp0, encRecord, hk, p1, q1, q2, q3, wrap8, hnm, aconv_int u2 u5] at hx; (try ((first | rw [guardL_if] at hx | rw [guardF_if] at hx); split at hx <;> rename_i hc)))); all_goals (subst hx; first | (refine ⟨_, rfl, fun ht => ?_, fun ht => ?_⟩ <;> (try simp only [bbs] at ht)) | (refine ⟨_, rfl, ?_⟩; (try simp only [tupOf])))) | refine wSkip ?_ | (refine wExit ?_; simp only [thenQ, blockQ, reduceIte, Nat.reduceEqDiff]) | refine wSeq ?_ | refine wBlock ?_)
    all_goals try (exfalso; (try simp only [bbs] at *); first | omega | exact absurd trivial (by assumption))
    all_goals exact gO_eq e (gO_bytes (new_same _ _))
  · have p1 := c_sl10Pair 33 (by omega)
    have p2 := c_sl10Pair r.Port (by omega)
    have q1 := fun H => apL2 (isB_l (wordL 33 2)) (wordL_ne 33 (by omega)) (by simp [wordL_len]) 192 12 H
    have q2 := fun H b n => apB (y := .lst true [[.v (.int .u8 0)], [.v (.int .u8 1)], [.v (.int .u8 0)], [.v (.int .u8 0)], [.v (.int .u8 0)], [.v (.int .u8 30)]]) (l := [0, 1, 0, 0, 0, 30]) ⟨true, rfl⟩ (by simp) ([192, 12] ++ wordL 33 2) (by simp [wordL_len]) H b n
    have q3 := fun H b n => apB (y := .lst true [[.v (.int .u8 0)], [.v (.int .u8 10)], [.v (.int .u8 0)], [.v (.int .u8 0)], [.v (.int .u8 0)], [.v (.int .u8 0)]]) (l := [0, 10, 0, 0, 0, 0]) ⟨true, rfl⟩ (by simp) ([192, 12] ++ wordL 33 2 ++ [0, 1, 0, 0, 0, 30]) (by simp [wordL_len]) H b n
    have q4 := fun H b n => apB (isB_l (wordL r.Port 2)) (wordL_ne _ (by omega)) ([192, 12] ++ wordL 33 2 ++ [0, 1, 0, 0, 0, 30] ++ [0, 10, 0, 0, 0, 0]) (by simp [wordL_len]) H b n
    have q5 := fun H b n => apB (isB_l [2, 110, 48 + r.Node, 0]) (by simp) ([192, 12] ++ wordL 33 2 ++ [0, 1, 0, 0, 0, 30] ++ [0, 10, 0, 0, 0, 0] ++ wordL r.Port 2) (by simp [wordL_len]) H b n
    have e : [192, 12] ++ wordL 33 2 ++ [0, 1, 0, 0, 0, 30] ++ [0, 10, 0, 0, 0, 0] ++ wordL r.Port 2 ++ [2, 110, 48 + r.Node, 0] = recB r := by unfold recB; rw [if_neg (by omega), hk, w2_33]; simp
    have di := c_sl1Digits r.Node (by omega)
    have en := cz_sName (nodeS r.Node) n3
    rw [n4] at en
    have z1 : (⟨#[110]⟩ : ByteArray).size + (digS r.Node).size ≤ 4611686018427387904 := by show (1 + 1 : Nat) ≤ _; omega
    have z2 : (#[110] : Array UInt8).size + (digS r.Node).size ≤ 4611686018427387904 := z1
    have z3 : 1 + (digS r.Node).size ≤ 4611686018427387904 := z1
    generalize digS r.Node = dg at *
    repeat' (first | ((first | refine wSeqr ?_ | refine wSeqrF ?_ | refine wIf ?_ | refine wReg ?_ | refine wRegF ?_ | (refine wRet ?_; (try simp only [thenQ, blockQ]); refine ends_by ?_)); intro xx hx; have hc := trivial; (repeat' (simp only [hc, Nat.reduceBEq, go_sem, Nat.reduceAdd, Nat.reduceMul, Nat.reduceSub, Nat.reduceEqDiff, Nat.reduceLT, Nat.reduceLeDiff, Int.reduceEq, Int.reduceLT, Int.reduceLE, reduceIte, aresults, aresult, hp0, encRecord, hk, p1, p2, q1, q2, q3, q4, q5, di, n2, z1, z2, z3, en] at hx; (try ((first | rw [guardL_if] at hx | rw [guardF_if] at hx); split at hx <;> rename_i hc)))); all_goals (subst hx; first | (refine ⟨_, rfl, fun ht => ?_, fun ht => ?_⟩ <;> (try simp only [bbs] at ht)) | (refine ⟨_, rfl, ?_⟩; (try simp only [tupOf])))) | refine wSkip ?_ | (refine wExit ?_; simp only [thenQ, blockQ, reduceIte, Nat.reduceEqDiff]) | refine wSeq ?_ | refine wBlock ?_)
    all_goals try (exfalso; (try simp only [bbs] at *); first | omega | exact absurd trivial (by assumption))
    all_goals exact gO_eq e (gO_bytes (new_same _ _))
theorem p_sl10Record (r : RecordM) (hro : recOk r) : pure Tryd.prog cfg0 58 Tryd.f58 [.fp (encRecord r) 0] = some (bytesL (recB r), true) := (pq_sl10Record r hro).1
theorem c_sl10Record (r : RecordM) (hro : recOk r) : ∀ H, call Tryd.prog cfg0 0 58 [.fp (encRecord r) 0] H = some (bytesL (recB r), H) :=
  call_fz Tryd.func58 rfl ok_sl10Record rfl (by simp only [fz_cons, fz_nil, go_sem, fz_fr, and_self]) (pq_sl10Record r hro).1
theorem o_sl10Record (r : RecordM) (hro : recOk r) : ∀ H, call Tryd.prog cfg0 1 58 [.fp (encRecord r) 0] H = mat depthD (bytesL (recB r)) H := fun H =>
  call_ofO Tryd.func58 rfl ok_sl10Record rfl (mapM_self fun x hx => ((show ∀ x ∈ ([.fp (encRecord r) 0] : List AV), Fz depthD x by simp only [fz_cons, fz_nil, go_sem, fz_fr, and_self]) x hx).1 H) (pq_sl10Record r hro).2

end
end Go.Proofs.YtnejoidfbgklbaaDoor
