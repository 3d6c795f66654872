/- Contracts: records in bytes, both sides. Contracts: records in bytes, both sides. Contracts: records in bytes, the reference's side. Contracts: answers in bytes, the program's side (printed by genAC.py). Contracts: answers in bytes, the reference's side. -/
import Derived.Test.YtnejoidfbgklbaaGreatDoorNC
namespace Go.Proofs.YtnejoidfbgklbaaGreatDoor
open Go Go.RowKit Go.Proofs.YtnejoidfbgklbaaGreatDoor.Eng
set_option linter.unusedSimpArgs false
set_option linter.unusedVariables false
set_option maxRecDepth 100000
set_option maxHeartbeats 2000000
noncomputable section
def digS (n : Int) : ByteArray := ⟨#[UInt8.ofNat (48 + n).toNat]⟩
def nodeS (n : Int) : ByteArray := ⟨#[110, UInt8.ofNat (48 + n).toNat]⟩
theorem node_all (n : Int) (h : 0 ≤ n ∧ n ≤ 3) : (⟨(Lib.itoa n).toArray⟩ : ByteArray) = digS n ∧ (⟨#[110]⟩ : ByteArray) ++ digS n = nodeS n ∧ labsOk [nodeS n] ∧ encN [nodeS n] = [2, 110, 48 + n, 0] := by
  have : n = 0 ∨ n = 1 ∨ n = 2 ∨ n = 3 := by omega
  rcases this with rfl | rfl | rfl | rfl <;> refine ⟨by kernel_rfl, by kernel_rfl, ⟨by simp, fun s hs => ?_⟩, by kernel_rfl⟩ <;> (simp only [List.mem_singleton] at hs; subst hs; kernel_rfl)
theorem conv_one (z : Int) (H : Hp) : aconv Tryz.prog H 22 9 (.lst true [[.v (.int .u8 z)]]) = some (.v (.string ⟨#[UInt8.ofNat z.toNat]⟩)) := by
  simp [aconv, u22, u9, u5, bytesIn]
theorem wrap_u8 {z : Int} (h1 : 0 ≤ z) (h2 : z ≤ 255) : IntKind.wrap .u8 z = z := by rw [wrap8]; omega
theorem ok_sl1Digits : fnOk Tryz.prog cfg0 85 Tryz.f85 = true := by kernel_rfl
theorem p_sl1Digits (n : Int) (hn : 0 ≤ n ∧ n ≤ 9) : pure Tryz.prog cfg0 85 Tryz.f85 [.v (.int .i64 n)] = some (.v (.string (digS n)), true) := by
  refine pure_wp (rs := [.tmp 2]) rfl rfl ?_
  have hp0 : ∀ b, cfg0.pol 85 b = 0 := fun b => rfl
  have h' : n < 10 := by omega
  have w1 : IntKind.wrap .i64 (48 + n) = 48 + n := wrap_i64 (by omega) (by omega)
  have w2 : IntKind.wrap .u8 (48 + n) = 48 + n := wrap_u8 (by omega) (by omega)
  (have hF := an hp0 <| an w1 <| an w2 <| an conv_one <| an (aconv_int u2 u5) <| h'; have hc := trivial; repeat' (first | refine wK ?_ | refine wX ?_ | refine rR ?_ | refine rB ?_ ?_ <;> intro ht <;> try simp only [bbs] at ht | refine rG ?_ ?_ <;> intro hc | refine rZ ?_ | refine wQ ?_))
  all_goals exact ⟨rfl, rfl⟩
theorem c_sl1Digits (n : Int) (hn : 0 ≤ n ∧ n ≤ 9) : ∀ H, call Tryz.prog cfg0 0 85 [.v (.int .i64 n)] H = some (.v (.string (digS n)), H) :=
  call_fz Tryz.func85 rfl ok_sl1Digits rfl (by simp only [fz_cons, fz_nil, go_sem, and_self]) (p_sl1Digits n hn)

theorem apL2 {y : AV} {l : List Int} (hy : isB y l) (hne : l ≠ []) (hl : l.length ≤ 1048576) (k m : Int) (H : Hp) : aappend Tryz.prog H [22, 22] (.lst true [[.v (.int .u8 k)], [.v (.int .u8 m)]]) y = some (.sl H.g 1 0 ([k, m] ++ l).length, H.new (([k, m] ++ l).map cell)) := by
  have z8 : zeroOf Tryz.prog 5 = some [cell 0] := zero5
  simp only [aappend, el22, z8, by5, Option.bind_some, happ_b hy int22]
  have hl0 : l.length ≠ 0 := fun e => hne (List.length_eq_zero_iff.1 e)
  rw [if_neg hl0, if_neg (by simp), if_pos ⟨by simp, roomy_1 (by simp; omega)⟩]
  simp [cell, Nat.add_comm]
  omega
theorem dz_tx (s : ByteArray) : Dzs depthD [.lst true [[.v (.string s)]]] [textsL [s]] := Dzs.cons (Dz.lst (n := 11) (xs := [[.v (.string s)]]) fun c hc x hx => by
  simp only [List.mem_singleton] at hc; subst hc
  simp only [List.mem_singleton] at hx; subst hx; exact Fz.string _ _) Dzs.nil
theorem cz_sName (s : ByteArray) (hk : labsOk [s]) : ∀ H, call Tryz.prog cfg0 0 69 [.lst true [[.v (.string s)]]] H = some (bytesL (encN [s]), H) := fun H =>
  call_dz Tryz.func69 rfl ok_sl10Name rfl (dz_tx s) (p_sl10Name [s] hk) H
theorem cz_iName (s : ByteArray) (hk : labsOk [s]) : ∀ H, call Tryz.prog cfg0 0 28 [.lst true [[.v (.string s)]]] H = some (.agg [.v (.int .i64 0), bytesL (encN [s])], H) := fun H =>
  call_dz Tryz.func28 rfl ok_iEncodeName rfl (dz_tx s) (p_iEncodeName [s] hk) H
theorem fz_fr (r : RecordM) : Fz depthD (.fp (encRecord r) 0) := Fz.fp (n := 11) (fzE_Record 10 r)
theorem w2_0 : wordL 0 2 = [0, 0] := by decide
theorem w2_1 : wordL 1 2 = [0, 1] := by decide
theorem w2_4 : wordL 4 2 = [0, 4] := by decide
theorem w2_10 : wordL 10 2 = [0, 10] := by decide
theorem w2_30 : wordL 30 2 = [0, 30] := by decide
theorem w2_33 : wordL 33 2 = [0, 33] := by decide
end
end Go.Proofs.YtnejoidfbgklbaaGreatDoor
namespace Go.Proofs.YtnejoidfbgklbaaGreatDoor
open Go Go.RowKit Go.Proofs.YtnejoidfbgklbaaGreatDoor.Eng
set_option linter.unusedSimpArgs false
set_option linter.unusedVariables false
set_option maxRecDepth 100000
set_option maxHeartbeats 2000000
noncomputable section
theorem rec_1 {r : RecordM} (h : r.Type_ = 1) : recB r = [192, 12] ++ (wordL 1 2 ++ (wordL 1 2 ++ (wordL 0 2 ++ wordL 30 2))) ++ (wordL 4 2 ++ [10, 0, 0, r.Node]) := by
  unfold recB; rw [if_pos h, h, w2_0, w2_1, w2_4, w2_30]; rfl
theorem rec_33 {r : RecordM} (h : r.Type_ = 33) : recB r = [192, 12] ++ (wordL 33 2 ++ (wordL 1 2 ++ (wordL 0 2 ++ wordL 30 2))) ++ ((wordL 10 2 ++ (wordL 0 2 ++ (wordL 0 2 ++ wordL r.Port 2))) ++ [2, 110, 48 + r.Node, 0]) := by
  unfold recB; rw [if_neg (by omega), h, w2_0, w2_1, w2_10, w2_30, w2_33]; simp
theorem ok_iRecord_encoded : fnOk Tryz.prog cfg0 51 Tryz.f51 = true := by kernel_rfl
theorem p_iRecord_encoded (r : RecordM) (hro : recOk r) : ∃ cl, pure Tryz.prog cfg0 51 Tryz.f51 [.agg [.v (.int .i64 r.Type_), .v (.int .i64 r.Node), .v (.int .i64 r.Port)]] = some (bytesL (recB r), cl) := by
  have key : ∃ v cl, v = (bytesL (recB r) : AV) ∧ pure Tryz.prog cfg0 51 Tryz.f51 [.agg [.v (.int .i64 r.Type_), .v (.int .i64 r.Node), .v (.int .i64 r.Port)]] = some (v, cl) := by
    refine pure_ex (rs := [.tmp 2]) rfl rfl ?_
    have hp0 : ∀ b, cfg0.pol 51 b = 0 := fun b => rfl
    obtain ⟨hty, hno, hpo⟩ := hro
    obtain ⟨n1, n2, n3, n4⟩ := node_all r.Node hno
    have hnm : r.Node % 256 = r.Node := by omega
    rcases hty with hk | hk
    · have s4 := sh4 1 1 0 30 (by omega) (by omega) (by omega) (by omega)
      have s1 := sh1 4 (by omega)
      have c2 := cat2 (x := .lst true [[.v (.int .u8 192)], [.v (.int .u8 12)]]) (y := bytesL (wordL 1 2 ++ (wordL 1 2 ++ (wordL 0 2 ++ wordL 30 2)))) dz2 dzB (by simp [wordL_len])
      have c3 := cat3 (x := bytesL ([192, 12] ++ (wordL 1 2 ++ (wordL 1 2 ++ (wordL 0 2 ++ wordL 30 2))))) (y := bytesL (wordL 4 2)) (z := .lst true [[.v (.int .u8 10)], [.v (.int .u8 0)], [.v (.int .u8 0)], [.v (.int .u8 r.Node)]]) dzB dzB dz4 (by simp [wordL_len])
      rw [← rec_1 hk] at c3
      (have hF := an hp0 <| an hk <| an s4 <| an s1 <| an c2 <| an c3 <| an wrap8 <| an hnm <| (aconv_int u2 u5); have hc := trivial; repeat' (first | refine wK ?_ | refine wX ?_ | refine rR ?_ | refine rB ?_ ?_ <;> intro ht <;> try simp only [bbs] at ht | refine rG ?_ ?_ <;> intro hc | refine rZ ?_ | refine wQ ?_))
      all_goals try exact False.elim kk
      all_goals exact dirty (fz_deep (bytesL_fz 10 _) _)
    · have s4 := sh4 33 1 0 30 (by omega) (by omega) (by omega) (by omega)
      have s1 := sh4 10 0 0 r.Port (by omega) (by omega) (by omega) (by omega)
      have c2 := cat2 (x := .lst true [[.v (.int .u8 192)], [.v (.int .u8 12)]]) (y := bytesL (wordL 33 2 ++ (wordL 1 2 ++ (wordL 0 2 ++ wordL 30 2)))) dz2 dzB (by simp [wordL_len])
      have c3 := cat3 (x := bytesL ([192, 12] ++ (wordL 33 2 ++ (wordL 1 2 ++ (wordL 0 2 ++ wordL 30 2))))) (y := bytesL (wordL 10 2 ++ (wordL 0 2 ++ (wordL 0 2 ++ wordL r.Port 2)))) (z := bytesL [2, 110, 48 + r.Node, 0]) dzB dzB dzB (by simp [wordL_len])
      rw [← rec_33 hk] at c3
      have fi := c_FormatInt r.Node ⟨by omega, by omega⟩
      unfold itoaT at fi
      rw [n1] at fi
      have en := cz_iName (nodeS r.Node) n3
      rw [n4] at en
      have z1 : (⟨#[110]⟩ : ByteArray).size + (digS r.Node).size ≤ 4611686018427387904 := by show (1 + 1 : Nat) ≤ _; omega
      have z2 : (#[110] : Array UInt8).size + (digS r.Node).size ≤ 4611686018427387904 := z1
      have z3 : 1 + (digS r.Node).size ≤ 4611686018427387904 := z1
      generalize digS r.Node = dg at *
      (have hF := an hp0 <| an hk <| an s4 <| an s1 <| an c2 <| an c3 <| an fi <| an n2 <| an z1 <| an z2 <| an z3 <| en; have hc := trivial; repeat' (first | refine wK ?_ | refine wX ?_ | refine rR ?_ | refine rB ?_ ?_ <;> intro ht <;> try simp only [bbs] at ht | refine rG ?_ ?_ <;> intro hc | refine rZ ?_ | refine wQ ?_))
      all_goals try exact False.elim kk
      all_goals exact dirty (fz_deep (bytesL_fz 10 _) _)
  obtain ⟨v, cl, rfl, hp⟩ := key
  exact ⟨cl, hp⟩
theorem c_iRecord_encoded (r : RecordM) (hro : recOk r) : ∀ H, call Tryz.prog cfg0 0 51 [.agg [.v (.int .i64 r.Type_), .v (.int .i64 r.Node), .v (.int .i64 r.Port)]] H = some (bytesL (recB r), H) := fun H => by
  obtain ⟨cl, hp⟩ := p_iRecord_encoded r hro
  exact call_fz Tryz.func51 rfl ok_iRecord_encoded rfl (by simp only [fz_cons, fz_nil, go_sem, and_self]) hp H

end
end Go.Proofs.YtnejoidfbgklbaaGreatDoor
namespace Go.Proofs.YtnejoidfbgklbaaGreatDoor
open Go Go.RowKit Go.Proofs.YtnejoidfbgklbaaGreatDoor.Eng
set_option linter.unusedSimpArgs false
set_option linter.unusedVariables false
set_option maxRecDepth 100000
set_option maxHeartbeats 2000000
noncomputable section
theorem ok_sl10Record : fnOk Tryz.prog cfg0 77 Tryz.f77 = true := by kernel_rfl
theorem pq_sl10Record (r : RecordM) (hro : recOk r) : pure Tryz.prog cfg0 77 Tryz.f77 [.fp (encRecord r) 0] = some (bytesL (recB r), true) ∧ owned Tryz.prog cfg0 77 Tryz.f77 [.fp (encRecord r) 0] = some (bytesL (recB r)) := by
  refine both_wp (rs := [.tmp 2]) rfl rfl ?_
  have hp0 : ∀ b, cfg0.pol 77 b = (if b = 33 then 3 else if b = 1000000 then 2 else 0) := fun b => rfl
  obtain ⟨hty, hno, hpo⟩ := hro
  obtain ⟨n1, n2, n3, n4⟩ := node_all r.Node hno
  have hnm : r.Node % 256 = r.Node := by omega
  rcases hty with hk | hk
  · have p1 := c_sl10Pair 1 (by omega)
    have q1 := fun H => apL2 (isB_l (wordL 1 2)) (wordL_ne 1 (by omega)) (by simp [wordL_len]) 192 12 H
    have q2 := fun H b n => apB (y := .lst true [[.v (.int .u8 0)], [.v (.int .u8 1)], [.v (.int .u8 0)], [.v (.int .u8 0)], [.v (.int .u8 0)], [.v (.int .u8 30)]]) (l := [0, 1, 0, 0, 0, 30]) ⟨true, rfl⟩ (by simp) ([192, 12] ++ wordL 1 2) (by simp [wordL_len]) H b n
    have q3 := fun H b n => apB (y := .lst true [[.v (.int .u8 0)], [.v (.int .u8 4)], [.v (.int .u8 10)], [.v (.int .u8 0)], [.v (.int .u8 0)], [.v (.int .u8 r.Node)]]) (l := [0, 4, 10, 0, 0, r.Node]) ⟨true, rfl⟩ (by simp) ([192, 12] ++ wordL 1 2 ++ [0, 1, 0, 0, 0, 30]) (by simp [wordL_len]) H b n
    have e : [192, 12] ++ wordL 1 2 ++ [0, 1, 0, 0, 0, 30] ++ [0, 4, 10, 0, 0, r.Node] = recB r := by unfold recB; rw [if_pos hk, hk, w2_1]; rfl
    repeat' (first | ((first | refine wSeqr ?_ | refine wSeqrF ?_ | refine wIf ?_ | refine wReg ?_ | refine wRegF ?_ | (refine wRet ?_; (try simp only [thenQ, blockQ]); refine ends_by ?_)); intro xx hx; have hc := trivial; (repeat' (simp only [hc, Nat.reduceBEq, go_sem, Nat.reduceAdd, Nat.reduceMul, Nat.reduceSub, Nat.reduceEqDiff, Nat.reduceLT, Nat.reduceLeDiff, Int.reduceEq, Int.reduceLT, Int.reduceLE, reduceIte, aresults, aresult, hp0, encRecord, hk, p1, q1, q2, q3, wrap8, hnm, aconv_int u2 u5] at hx; (try ((first | rw [guardL_if] at hx | rw [guardF_if] at hx); split at hx <;> rename_i hc)))); all_goals (subst hx; first | (refine ⟨_, rfl, fun ht => ?_, fun ht => ?_⟩ <;> (try simp only [bbs] at ht)) | (refine ⟨_, rfl, ?_⟩; (try simp only [tupOf])))) | refine wSkip ?_ | (refine wExit ?_; simp only [thenQ, blockQ, reduceIte, Nat.reduceEqDiff]) | refine wSeq ?_ | refine wBlock ?_)
    all_goals try exact False.elim kk
    all_goals exact gO_eq e (gO_bytes (new_same _ _))
  · have p1 := c_sl10Pair 33 (by omega)
    have p2 := c_sl10Pair r.Port (by omega)
    have q1 := fun H => apL2 (isB_l (wordL 33 2)) (wordL_ne 33 (by omega)) (by simp [wordL_len]) 192 12 H
    have q2 := fun H b n => apB (y := .lst true [[.v (.int .u8 0)], [.v (.int .u8 1)], [.v (.int .u8 0)], [.v (.int .u8 0)], [.v (.int .u8 0)], [.v (.int .u8 30)]]) (l := [0, 1, 0, 0, 0, 30]) ⟨true, rfl⟩ (by simp) ([192, 12] ++ wordL 33 2) (by simp [wordL_len]) H b n
    have q3 := fun H b n => apB (y := .lst true [[.v (.int .u8 0)], [.v (.int .u8 10)], [.v (.int .u8 0)], [.v (.int .u8 0)], [.v (.int .u8 0)], [.v (.int .u8 0)]]) (l := [0, 10, 0, 0, 0, 0]) ⟨true, rfl⟩ (by simp) ([192, 12] ++ wordL 33 2 ++ [0, 1, 0, 0, 0, 30]) (by simp [wordL_len]) H b n
    have q4 := fun H b n => apB (isB_l (wordL r.Port 2)) (wordL_ne _ (by omega)) ([192, 12] ++ wordL 33 2 ++ [0, 1, 0, 0, 0, 30] ++ [0, 10, 0, 0, 0, 0]) (by simp [wordL_len]) H b n
    have q5 := fun H b n => apB (isB_l [2, 110, 48 + r.Node, 0]) (by simp) ([192, 12] ++ wordL 33 2 ++ [0, 1, 0, 0, 0, 30] ++ [0, 10, 0, 0, 0, 0] ++ wordL r.Port 2) (by simp [wordL_len]) H b n
    have e : [192, 12] ++ wordL 33 2 ++ [0, 1, 0, 0, 0, 30] ++ [0, 10, 0, 0, 0, 0] ++ wordL r.Port 2 ++ [2, 110, 48 + r.Node, 0] = recB r := by unfold recB; rw [if_neg (by omega), hk, w2_33]; simp
    have di := c_sl1Digits r.Node (by omega)
    have en := cz_sName (nodeS r.Node) n3
    rw [n4] at en
    have z1 : (⟨#[110]⟩ : ByteArray).size + (digS r.Node).size ≤ 4611686018427387904 := by show (1 + 1 : Nat) ≤ _; omega
    have z2 : (#[110] : Array UInt8).size + (digS r.Node).size ≤ 4611686018427387904 := z1
    have z3 : 1 + (digS r.Node).size ≤ 4611686018427387904 := z1
    generalize digS r.Node = dg at *
    repeat' (first | ((first | refine wSeqr ?_ | refine wSeqrF ?_ | refine wIf ?_ | refine wReg ?_ | refine wRegF ?_ | (refine wRet ?_; (try simp only [thenQ, blockQ]); refine ends_by ?_)); intro xx hx; have hc := trivial; (repeat' (simp only [hc, Nat.reduceBEq, go_sem, Nat.reduceAdd, Nat.reduceMul, Nat.reduceSub, Nat.reduceEqDiff, Nat.reduceLT, Nat.reduceLeDiff, Int.reduceEq, Int.reduceLT, Int.reduceLE, reduceIte, aresults, aresult, hp0, encRecord, hk, p1, p2, q1, q2, q3, q4, q5, di, n2, z1, z2, z3, en] at hx; (try ((first | rw [guardL_if] at hx | rw [guardF_if] at hx); split at hx <;> rename_i hc)))); all_goals (subst hx; first | (refine ⟨_, rfl, fun ht => ?_, fun ht => ?_⟩ <;> (try simp only [bbs] at ht)) | (refine ⟨_, rfl, ?_⟩; (try simp only [tupOf])))) | refine wSkip ?_ | (refine wExit ?_; simp only [thenQ, blockQ, reduceIte, Nat.reduceEqDiff]) | refine wSeq ?_ | refine wBlock ?_)
    all_goals try exact False.elim kk
    all_goals exact gO_eq e (gO_bytes (new_same _ _))
theorem p_sl10Record (r : RecordM) (hro : recOk r) : pure Tryz.prog cfg0 77 Tryz.f77 [.fp (encRecord r) 0] = some (bytesL (recB r), true) := (pq_sl10Record r hro).1
theorem c_sl10Record (r : RecordM) (hro : recOk r) : ∀ H, call Tryz.prog cfg0 0 77 [.fp (encRecord r) 0] H = some (bytesL (recB r), H) :=
  call_fz Tryz.func77 rfl ok_sl10Record rfl (by simp only [fz_cons, fz_nil, go_sem, fz_fr, and_self]) (pq_sl10Record r hro).1
end
end Go.Proofs.YtnejoidfbgklbaaGreatDoor
namespace Go.Proofs.YtnejoidfbgklbaaGreatDoor
open Go Go.RowKit Go.Proofs.YtnejoidfbgklbaaGreatDoor.Eng
set_option linter.unusedSimpArgs false
set_option linter.unusedVariables false
set_option maxRecDepth 100000
set_option maxHeartbeats 2000000
noncomputable section
theorem slR (H : Hp) (e : Env) (rs : List RecordM) (lo : Option Operand) (hi : Operand) : aslice Tryz.prog H e 39 (.lst false (rs.map encRecord)) lo (some hi) none = sliceR encRecord rs (bound e 0 lo) (natOf (opd e hi)) := aslice_R (enc := encRecord) (fun _ => rfl) u39 sz86 H e rs lo hi
attribute [go_sem] slR
theorem recs_len (l : List RecordM) : ((l.map recB).flatten).length ≤ 22 * l.length := by
  induction l with
  | nil => simp
  | cons r t ih =>
    have : (recB r).length ≤ 22 := by rw [recB_len]; split <;> omega
    simp only [List.map_cons, List.flatten_cons, List.length_append, List.length_cons]; omega
def recsB (rs : List RecordM) (j : Nat) : List Int := ((rs.take j).map recB).flatten
theorem recsB_succ {rs : List RecordM} {j : Nat} {r : RecordM} (h : rs[j]? = some r) : recsB rs (j + 1) = recsB rs j ++ recB r := by
  unfold recsB
  rw [List.take_add_one, h]
  simp
theorem recsB_len (rs : List RecordM) (j : Nat) : (recsB rs j).length ≤ 22 * rs.length := by
  have h1 := recs_len (rs.take j)
  have h2 : (rs.take j).length ≤ rs.length := by rw [List.length_take]; omega
  unfold recsB; omega
theorem racc_new {l : List Int} (H : Hp) : RAcc (H.new (l.map cell)) (.sl H.g 1 0 l.length) 1 (l.map cell) l.length := ⟨by simp, .inr ⟨H.g, by simp, rfl, new_same _ _⟩⟩
def ansH (i : List Int) (st fl ak : Int) (m : Nat) (q : List Int) : List Int := i ++ ([fl, st] ++ ((wordL ak 2 ++ (wordL m 2 ++ (wordL 0 2 ++ wordL 0 2))) ++ q))
theorem ans_eq {i q : List Int} {st : Int} {cut : Bool} {rs : List RecordM} {m : Nat} {fl ak : Int} (hm : m ≤ rs.length) (hs : 0 ≤ st ∧ st ≤ 255) (hf : fl = if cut = true then 134 else 132) (ha : ak = if st = 1 then 0 else 1) : ansH i st fl ak m q ++ recsB rs m = ansB i st cut q (rs.take m) := by
  have e1 : wordL ak 2 = [0, if st = 1 then 0 else 1] := by subst ha; split <;> decide
  have e2 : st % 256 = st := by omega
  have e3 : (rs.take m).length = m := by rw [List.length_take]; omega
  unfold ansH ansB recsB
  rw [e1, w2_0, hf, e2, e3]
  simp [List.append_assoc]
theorem fz_rs (rs : List RecordM) : Fz depthD (.lst false (rs.map encRecord)) := fz_rows (n := 11) (fun k => fzE_Record 10 k) rs
theorem ok_imade : fnOk Tryz.prog cfg0 42 Tryz.f42 = true := by kernel_rfl
theorem pq_imade (i q : List Int) (st : Int) (rs : List RecordM) (m : Nat) (hil : i.length ≤ 1000) (hql : q.length ≤ 1000) (hrl : rs.length ≤ 100) (hml : m ≤ rs.length) (hst : 0 ≤ st ∧ st ≤ 255) (hro : ∀ r ∈ rs, recOk r) : pure Tryz.prog cfg0 42 Tryz.f42 [bytesL i, .v (.int .i64 st), bytesL q, .lst false (rs.map encRecord), .v (.int .i64 (m : Nat))] = some (bytesL (ansB i st (decide (m < rs.length)) q (rs.take m)), true) ∧ owned Tryz.prog cfg0 42 Tryz.f42 [bytesL i, .v (.int .i64 st), bytesL q, .lst false (rs.map encRecord), .v (.int .i64 (m : Nat))] = some (bytesL (ansB i st (decide (m < rs.length)) q (rs.take m))) := by
  refine both_wp (rs := [.tmp 10]) rfl rfl ?_
  have hp0 : ∀ b, cfg0.pol 42 b = (if b = 33 then 1 else 0) := fun b => rfl
  have hs8 : st % 256 = st := by omega
  have hmn : min m rs.length = m := by omega
  rcases Classical.em (st = 1) with hs1 | hs1
  · have hsT : (st = 1) = True := eq_true hs1
    rcases Classical.em (m < rs.length) with hc1 | hc1
    · have hcT : (((m : Nat) : Int) < (rs.length : Int)) = True := eq_true (by omega)
      have e := ans_eq (i := i) (q := q) (cut := decide (m < rs.length)) (fl := 134) (ak := 0) hml hst (by simp [hc1]) (by simp [hs1])
      rw [← e]
      have s4 := sh4 0 (m : Nat) 0 0 (by omega) (by omega) (by omega) (by omega)
      have hcat := ocat4 (x := bytesL i) (y := .lst true [[.v (.int .u8 134)], [.v (.int .u8 st)]]) (z := bytesL (wordL 0 2 ++ (wordL (m : Nat) 2 ++ (wordL 0 2 ++ wordL 0 2)))) (w := bytesL q) dzB dz2 dzB dzB (by simp [wordL_len]; omega) (by simp)
      have hB : (ansH i st 134 0 m q).length ≤ 2100 := by unfold ansH; simp [wordL_len]; omega
      have hBe : i ++ ([134, st] ++ ((wordL 0 2 ++ (wordL (m : Nat) 2 ++ (wordL 0 2 ++ wordL 0 2))) ++ q)) = ansH i st 134 0 m q := rfl
      rw [hBe] at hcat
      generalize ansH i st 134 0 m q = B at *
      (have hF := an hp0 <| an hsT <| an hcT <| an wrap8 <| an hs8 <| an (aconv_int u2 u5) <| an s4 <| an hcat <| an Nat.zero_le <| an hml <| an Nat.sub_zero <| an @List.length_map.{0,0} <| an @List.length_take.{0} <| hmn; have hc := trivial; repeat' (first | refine wK ?_ | refine wX ?_ | refine rR ?_ | refine rB ?_ ?_ <;> intro ht <;> try simp only [bbs] at ht | refine rG ?_ ?_ <;> intro hc | refine rZ ?_ | refine wQ ?_))
      all_goals try exact False.elim kk
      refine wLoop (fun k s => ∃ (j : Nat) (x : AV), j + k = m ∧ s.1 13 = x ∧ s.1 36 = .lst false ((rs.take m).map encRecord) ∧ s.1 37 = .v (.int .i64 (m : Nat)) ∧ s.1 38 = .v (.int .i64 (j : Nat)) ∧ (RAcc s.2 x 1 ((B ++ recsB rs j).map cell) (B ++ recsB rs j).length)) (fun k s hI => ?_) (m) _ ?_
      · obtain ⟨e, H⟩ := s
        obtain ⟨j, x, hj, h13, h36, h37, h38, hr⟩ := hI
        simp only at h13 h36 h37 h38 hr
        have hll := recsB_len rs j
        have hBl : (B ++ recsB rs j).length ≤ 5000 := by rw [List.length_append]; omega
        by_cases hlt : j < m
        · have hltI : ((j : Nat) : Int) < (m : Int) := by omega
          obtain ⟨r, hg, -, hm1⟩ := at_drop (l := rs) (j := j) (by omega)
          have hgt : (rs.take m)[j]? = some r := by rw [List.getElem?_take, if_pos hlt]; exact hg
          have hg' := map_at (f := encRecord) hgt
          have hen := c_iRecord_encoded r (hro r hm1)
          have hrl1 : (recB r).length ≤ 22 := by rw [recB_len]; split <;> omega
          have w1 : IntKind.wrap .i64 (((j : Nat) : Int) + 1) = ((j + 1 : Nat) : Int) := wrap_succ (by omega)
          (have hF := an hp0 <| an h36 <| an h37 <| an h38 <| an hltI <| an hg' <| encRecord.eq_def; have hc := trivial; repeat' ((fail_if_success (first | refine wAt 10 ?_ | refine wAtL 10 ?_)); first | refine wK ?_ | refine wX ?_ | refine rR ?_ | refine rB ?_ ?_ <;> intro ht <;> try simp only [bbs] at ht | refine rG ?_ ?_ <;> intro hc | refine rZ ?_ | refine wQ ?_))
          all_goals try exact False.elim kk
          have hF := an hp0 <| an h13 <| hen; have hc := trivial; (try refine wX ?_); refine rN (fun xx hx => ?_); generalize hq : aappend Tryz.prog _ _ _ _ = q at hx
          obtain ⟨x', K2, rfl, hacc, hg2, hk2, ho2⟩ := app_rows hq el22 zero5 by5 int22 (sz := 1) rfl (by omega) (hr.ext ⟨by simp only [Hp.set_g, Hp.new_g]; omega, fun b hb => by simp only [Hp.set_h, Hp.new_h]; (repeat' split) <;> first | omega | rfl⟩) (alen_bytes _) (afirst_bytes _ _) (by simp) (by omega) (by omega)
          clear hq
          (subst hx; have hF := hp0; have hc := trivial; repeat' (first | refine rR ?_ | refine rG ?_ ?_ <;> intro hc | refine rZ ?_ | fail))
          (have hF := an hp0 <| an h38 <| w1; have hc := trivial; repeat' (first | refine wK ?_ | refine wX ?_ | refine rR ?_ | refine rB ?_ ?_ <;> intro ht <;> try simp only [bbs] at ht | refine rG ?_ ?_ <;> intro hc | refine rZ ?_ | refine wQ ?_))
          all_goals try exact False.elim kk
          have hS := an h13 <| an h36 <| an h37 <| h38; refine ⟨_, Nat.sub_lt (by omega) Nat.one_pos, j + 1, x', by omega, sl, sl, sl, sl, ?_⟩
          rw [recsB_succ hg, ← List.append_assoc, List.map_append, List.length_append]
          exact hacc
        · have hltI : ¬ ((j : Nat) : Int) < (m : Int) := by omega
          have hj2 : j = m := by omega
          subst hj2
          (have hF := an hp0 <| an h13 <| an h37 <| an h38 <| hltI; have hc := trivial; repeat' (first | refine wK ?_ | refine wX ?_ | refine rR ?_ | refine rB ?_ ?_ <;> intro ht <;> try simp only [bbs] at ht | refine rG ?_ ?_ <;> intro hc | refine rZ ?_ | refine wQ ?_))
          all_goals try exact False.elim kk
          exact gO_bytesR hr
      · refine ⟨0, .sl Hp.nil.g 1 0 B.length, by omega, rfl, rfl, rfl, rfl, ?_⟩
        have := racc_new (l := B ++ recsB rs 0) Hp.nil
        simpa [recsB] using this
    · have hcT : (((m : Nat) : Int) < (rs.length : Int)) = False := eq_false (by omega)
      have e := ans_eq (i := i) (q := q) (cut := decide (m < rs.length)) (fl := 132) (ak := 0) hml hst (by simp [hc1]) (by simp [hs1])
      rw [← e]
      have s4 := sh4 0 (m : Nat) 0 0 (by omega) (by omega) (by omega) (by omega)
      have hcat := ocat4 (x := bytesL i) (y := .lst true [[.v (.int .u8 132)], [.v (.int .u8 st)]]) (z := bytesL (wordL 0 2 ++ (wordL (m : Nat) 2 ++ (wordL 0 2 ++ wordL 0 2)))) (w := bytesL q) dzB dz2 dzB dzB (by simp [wordL_len]; omega) (by simp)
      have hB : (ansH i st 132 0 m q).length ≤ 2100 := by unfold ansH; simp [wordL_len]; omega
      have hBe : i ++ ([132, st] ++ ((wordL 0 2 ++ (wordL (m : Nat) 2 ++ (wordL 0 2 ++ wordL 0 2))) ++ q)) = ansH i st 132 0 m q := rfl
      rw [hBe] at hcat
      generalize ansH i st 132 0 m q = B at *
      (have hF := an hp0 <| an hsT <| an hcT <| an wrap8 <| an hs8 <| an (aconv_int u2 u5) <| an s4 <| an hcat <| an Nat.zero_le <| an hml <| an Nat.sub_zero <| an @List.length_map.{0,0} <| an @List.length_take.{0} <| hmn; have hc := trivial; repeat' (first | refine wK ?_ | refine wX ?_ | refine rR ?_ | refine rB ?_ ?_ <;> intro ht <;> try simp only [bbs] at ht | refine rG ?_ ?_ <;> intro hc | refine rZ ?_ | refine wQ ?_))
      all_goals try exact False.elim kk
      refine wLoop (fun k s => ∃ (j : Nat) (x : AV), j + k = m ∧ s.1 13 = x ∧ s.1 36 = .lst false ((rs.take m).map encRecord) ∧ s.1 37 = .v (.int .i64 (m : Nat)) ∧ s.1 38 = .v (.int .i64 (j : Nat)) ∧ (RAcc s.2 x 1 ((B ++ recsB rs j).map cell) (B ++ recsB rs j).length)) (fun k s hI => ?_) (m) _ ?_
      · obtain ⟨e, H⟩ := s
        obtain ⟨j, x, hj, h13, h36, h37, h38, hr⟩ := hI
        simp only at h13 h36 h37 h38 hr
        have hll := recsB_len rs j
        have hBl : (B ++ recsB rs j).length ≤ 5000 := by rw [List.length_append]; omega
        by_cases hlt : j < m
        · have hltI : ((j : Nat) : Int) < (m : Int) := by omega
          obtain ⟨r, hg, -, hm1⟩ := at_drop (l := rs) (j := j) (by omega)
          have hgt : (rs.take m)[j]? = some r := by rw [List.getElem?_take, if_pos hlt]; exact hg
          have hg' := map_at (f := encRecord) hgt
          have hen := c_iRecord_encoded r (hro r hm1)
          have hrl1 : (recB r).length ≤ 22 := by rw [recB_len]; split <;> omega
          have w1 : IntKind.wrap .i64 (((j : Nat) : Int) + 1) = ((j + 1 : Nat) : Int) := wrap_succ (by omega)
          (have hF := an hp0 <| an h36 <| an h37 <| an h38 <| an hltI <| an hg' <| encRecord.eq_def; have hc := trivial; repeat' ((fail_if_success (first | refine wAt 10 ?_ | refine wAtL 10 ?_)); first | refine wK ?_ | refine wX ?_ | refine rR ?_ | refine rB ?_ ?_ <;> intro ht <;> try simp only [bbs] at ht | refine rG ?_ ?_ <;> intro hc | refine rZ ?_ | refine wQ ?_))
          all_goals try exact False.elim kk
          have hF := an hp0 <| an h13 <| hen; have hc := trivial; (try refine wX ?_); refine rN (fun xx hx => ?_); generalize hq : aappend Tryz.prog _ _ _ _ = q at hx
          obtain ⟨x', K2, rfl, hacc, hg2, hk2, ho2⟩ := app_rows hq el22 zero5 by5 int22 (sz := 1) rfl (by omega) (hr.ext ⟨by simp only [Hp.set_g, Hp.new_g]; omega, fun b hb => by simp only [Hp.set_h, Hp.new_h]; (repeat' split) <;> first | omega | rfl⟩) (alen_bytes _) (afirst_bytes _ _) (by simp) (by omega) (by omega)
          clear hq
          (subst hx; have hF := hp0; have hc := trivial; repeat' (first | refine rR ?_ | refine rG ?_ ?_ <;> intro hc | refine rZ ?_ | fail))
          (have hF := an hp0 <| an h38 <| w1; have hc := trivial; repeat' (first | refine wK ?_ | refine wX ?_ | refine rR ?_ | refine rB ?_ ?_ <;> intro ht <;> try simp only [bbs] at ht | refine rG ?_ ?_ <;> intro hc | refine rZ ?_ | refine wQ ?_))
          all_goals try exact False.elim kk
          have hS := an h13 <| an h36 <| an h37 <| h38; refine ⟨_, Nat.sub_lt (by omega) Nat.one_pos, j + 1, x', by omega, sl, sl, sl, sl, ?_⟩
          rw [recsB_succ hg, ← List.append_assoc, List.map_append, List.length_append]
          exact hacc
        · have hltI : ¬ ((j : Nat) : Int) < (m : Int) := by omega
          have hj2 : j = m := by omega
          subst hj2
          (have hF := an hp0 <| an h13 <| an h37 <| an h38 <| hltI; have hc := trivial; repeat' (first | refine wK ?_ | refine wX ?_ | refine rR ?_ | refine rB ?_ ?_ <;> intro ht <;> try simp only [bbs] at ht | refine rG ?_ ?_ <;> intro hc | refine rZ ?_ | refine wQ ?_))
          all_goals try exact False.elim kk
          exact gO_bytesR hr
      · refine ⟨0, .sl Hp.nil.g 1 0 B.length, by omega, rfl, rfl, rfl, rfl, ?_⟩
        have := racc_new (l := B ++ recsB rs 0) Hp.nil
        simpa [recsB] using this
  · have hsT : (st = 1) = False := eq_false hs1
    rcases Classical.em (m < rs.length) with hc1 | hc1
    · have hcT : (((m : Nat) : Int) < (rs.length : Int)) = True := eq_true (by omega)
      have e := ans_eq (i := i) (q := q) (cut := decide (m < rs.length)) (fl := 134) (ak := 1) hml hst (by simp [hc1]) (by simp [hs1])
      rw [← e]
      have s4 := sh4 1 (m : Nat) 0 0 (by omega) (by omega) (by omega) (by omega)
      have hcat := ocat4 (x := bytesL i) (y := .lst true [[.v (.int .u8 134)], [.v (.int .u8 st)]]) (z := bytesL (wordL 1 2 ++ (wordL (m : Nat) 2 ++ (wordL 0 2 ++ wordL 0 2)))) (w := bytesL q) dzB dz2 dzB dzB (by simp [wordL_len]; omega) (by simp)
      have hB : (ansH i st 134 1 m q).length ≤ 2100 := by unfold ansH; simp [wordL_len]; omega
      have hBe : i ++ ([134, st] ++ ((wordL 1 2 ++ (wordL (m : Nat) 2 ++ (wordL 0 2 ++ wordL 0 2))) ++ q)) = ansH i st 134 1 m q := rfl
      rw [hBe] at hcat
      generalize ansH i st 134 1 m q = B at *
      (have hF := an hp0 <| an hsT <| an hcT <| an wrap8 <| an hs8 <| an (aconv_int u2 u5) <| an s4 <| an hcat <| an Nat.zero_le <| an hml <| an Nat.sub_zero <| an @List.length_map.{0,0} <| an @List.length_take.{0} <| hmn; have hc := trivial; repeat' (first | refine wK ?_ | refine wX ?_ | refine rR ?_ | refine rB ?_ ?_ <;> intro ht <;> try simp only [bbs] at ht | refine rG ?_ ?_ <;> intro hc | refine rZ ?_ | refine wQ ?_))
      all_goals try exact False.elim kk
      refine wLoop (fun k s => ∃ (j : Nat) (x : AV), j + k = m ∧ s.1 13 = x ∧ s.1 36 = .lst false ((rs.take m).map encRecord) ∧ s.1 37 = .v (.int .i64 (m : Nat)) ∧ s.1 38 = .v (.int .i64 (j : Nat)) ∧ (RAcc s.2 x 1 ((B ++ recsB rs j).map cell) (B ++ recsB rs j).length)) (fun k s hI => ?_) (m) _ ?_
      · obtain ⟨e, H⟩ := s
        obtain ⟨j, x, hj, h13, h36, h37, h38, hr⟩ := hI
        simp only at h13 h36 h37 h38 hr
        have hll := recsB_len rs j
        have hBl : (B ++ recsB rs j).length ≤ 5000 := by rw [List.length_append]; omega
        by_cases hlt : j < m
        · have hltI : ((j : Nat) : Int) < (m : Int) := by omega
          obtain ⟨r, hg, -, hm1⟩ := at_drop (l := rs) (j := j) (by omega)
          have hgt : (rs.take m)[j]? = some r := by rw [List.getElem?_take, if_pos hlt]; exact hg
          have hg' := map_at (f := encRecord) hgt
          have hen := c_iRecord_encoded r (hro r hm1)
          have hrl1 : (recB r).length ≤ 22 := by rw [recB_len]; split <;> omega
          have w1 : IntKind.wrap .i64 (((j : Nat) : Int) + 1) = ((j + 1 : Nat) : Int) := wrap_succ (by omega)
          (have hF := an hp0 <| an h36 <| an h37 <| an h38 <| an hltI <| an hg' <| encRecord.eq_def; have hc := trivial; repeat' ((fail_if_success (first | refine wAt 10 ?_ | refine wAtL 10 ?_)); first | refine wK ?_ | refine wX ?_ | refine rR ?_ | refine rB ?_ ?_ <;> intro ht <;> try simp only [bbs] at ht | refine rG ?_ ?_ <;> intro hc | refine rZ ?_ | refine wQ ?_))
          all_goals try exact False.elim kk
          have hF := an hp0 <| an h13 <| hen; have hc := trivial; (try refine wX ?_); refine rN (fun xx hx => ?_); generalize hq : aappend Tryz.prog _ _ _ _ = q at hx
          obtain ⟨x', K2, rfl, hacc, hg2, hk2, ho2⟩ := app_rows hq el22 zero5 by5 int22 (sz := 1) rfl (by omega) (hr.ext ⟨by simp only [Hp.set_g, Hp.new_g]; omega, fun b hb => by simp only [Hp.set_h, Hp.new_h]; (repeat' split) <;> first | omega | rfl⟩) (alen_bytes _) (afirst_bytes _ _) (by simp) (by omega) (by omega)
          clear hq
          (subst hx; have hF := hp0; have hc := trivial; repeat' (first | refine rR ?_ | refine rG ?_ ?_ <;> intro hc | refine rZ ?_ | fail))
          (have hF := an hp0 <| an h38 <| w1; have hc := trivial; repeat' (first | refine wK ?_ | refine wX ?_ | refine rR ?_ | refine rB ?_ ?_ <;> intro ht <;> try simp only [bbs] at ht | refine rG ?_ ?_ <;> intro hc | refine rZ ?_ | refine wQ ?_))
          all_goals try exact False.elim kk
          have hS := an h13 <| an h36 <| an h37 <| h38; refine ⟨_, Nat.sub_lt (by omega) Nat.one_pos, j + 1, x', by omega, sl, sl, sl, sl, ?_⟩
          rw [recsB_succ hg, ← List.append_assoc, List.map_append, List.length_append]
          exact hacc
        · have hltI : ¬ ((j : Nat) : Int) < (m : Int) := by omega
          have hj2 : j = m := by omega
          subst hj2
          (have hF := an hp0 <| an h13 <| an h37 <| an h38 <| hltI; have hc := trivial; repeat' (first | refine wK ?_ | refine wX ?_ | refine rR ?_ | refine rB ?_ ?_ <;> intro ht <;> try simp only [bbs] at ht | refine rG ?_ ?_ <;> intro hc | refine rZ ?_ | refine wQ ?_))
          all_goals try exact False.elim kk
          exact gO_bytesR hr
      · refine ⟨0, .sl Hp.nil.g 1 0 B.length, by omega, rfl, rfl, rfl, rfl, ?_⟩
        have := racc_new (l := B ++ recsB rs 0) Hp.nil
        simpa [recsB] using this
    · have hcT : (((m : Nat) : Int) < (rs.length : Int)) = False := eq_false (by omega)
      have e := ans_eq (i := i) (q := q) (cut := decide (m < rs.length)) (fl := 132) (ak := 1) hml hst (by simp [hc1]) (by simp [hs1])
      rw [← e]
      have s4 := sh4 1 (m : Nat) 0 0 (by omega) (by omega) (by omega) (by omega)
      have hcat := ocat4 (x := bytesL i) (y := .lst true [[.v (.int .u8 132)], [.v (.int .u8 st)]]) (z := bytesL (wordL 1 2 ++ (wordL (m : Nat) 2 ++ (wordL 0 2 ++ wordL 0 2)))) (w := bytesL q) dzB dz2 dzB dzB (by simp [wordL_len]; omega) (by simp)
      have hB : (ansH i st 132 1 m q).length ≤ 2100 := by unfold ansH; simp [wordL_len]; omega
      have hBe : i ++ ([132, st] ++ ((wordL 1 2 ++ (wordL (m : Nat) 2 ++ (wordL 0 2 ++ wordL 0 2))) ++ q)) = ansH i st 132 1 m q := rfl
      rw [hBe] at hcat
      generalize ansH i st 132 1 m q = B at *
      (have hF := an hp0 <| an hsT <| an hcT <| an wrap8 <| an hs8 <| an (aconv_int u2 u5) <| an s4 <| an hcat <| an Nat.zero_le <| an hml <| an Nat.sub_zero <| an @List.length_map.{0,0} <| an @List.length_take.{0} <| hmn; have hc := trivial; repeat' (first | refine wK ?_ | refine wX ?_ | refine rR ?_ | refine rB ?_ ?_ <;> intro ht <;> try simp only [bbs] at ht | refine rG ?_ ?_ <;> intro hc | refine rZ ?_ | refine wQ ?_))
      all_goals try exact False.elim kk
      refine wLoop (fun k s => ∃ (j : Nat) (x : AV), j + k = m ∧ s.1 13 = x ∧ s.1 36 = .lst false ((rs.take m).map encRecord) ∧ s.1 37 = .v (.int .i64 (m : Nat)) ∧ s.1 38 = .v (.int .i64 (j : Nat)) ∧ (RAcc s.2 x 1 ((B ++ recsB rs j).map cell) (B ++ recsB rs j).length)) (fun k s hI => ?_) (m) _ ?_
      · obtain ⟨e, H⟩ := s
        obtain ⟨j, x, hj, h13, h36, h37, h38, hr⟩ := hI
        simp only at h13 h36 h37 h38 hr
        have hll := recsB_len rs j
        have hBl : (B ++ recsB rs j).length ≤ 5000 := by rw [List.length_append]; omega
        by_cases hlt : j < m
        · have hltI : ((j : Nat) : Int) < (m : Int) := by omega
          obtain ⟨r, hg, -, hm1⟩ := at_drop (l := rs) (j := j) (by omega)
          have hgt : (rs.take m)[j]? = some r := by rw [List.getElem?_take, if_pos hlt]; exact hg
          have hg' := map_at (f := encRecord) hgt
          have hen := c_iRecord_encoded r (hro r hm1)
          have hrl1 : (recB r).length ≤ 22 := by rw [recB_len]; split <;> omega
          have w1 : IntKind.wrap .i64 (((j : Nat) : Int) + 1) = ((j + 1 : Nat) : Int) := wrap_succ (by omega)
          (have hF := an hp0 <| an h36 <| an h37 <| an h38 <| an hltI <| an hg' <| encRecord.eq_def; have hc := trivial; repeat' ((fail_if_success (first | refine wAt 10 ?_ | refine wAtL 10 ?_)); first | refine wK ?_ | refine wX ?_ | refine rR ?_ | refine rB ?_ ?_ <;> intro ht <;> try simp only [bbs] at ht | refine rG ?_ ?_ <;> intro hc | refine rZ ?_ | refine wQ ?_))
          all_goals try exact False.elim kk
          have hF := an hp0 <| an h13 <| hen; have hc := trivial; (try refine wX ?_); refine rN (fun xx hx => ?_); generalize hq : aappend Tryz.prog _ _ _ _ = q at hx
          obtain ⟨x', K2, rfl, hacc, hg2, hk2, ho2⟩ := app_rows hq el22 zero5 by5 int22 (sz := 1) rfl (by omega) (hr.ext ⟨by simp only [Hp.set_g, Hp.new_g]; omega, fun b hb => by simp only [Hp.set_h, Hp.new_h]; (repeat' split) <;> first | omega | rfl⟩) (alen_bytes _) (afirst_bytes _ _) (by simp) (by omega) (by omega)
          clear hq
          (subst hx; have hF := hp0; have hc := trivial; repeat' (first | refine rR ?_ | refine rG ?_ ?_ <;> intro hc | refine rZ ?_ | fail))
          (have hF := an hp0 <| an h38 <| w1; have hc := trivial; repeat' (first | refine wK ?_ | refine wX ?_ | refine rR ?_ | refine rB ?_ ?_ <;> intro ht <;> try simp only [bbs] at ht | refine rG ?_ ?_ <;> intro hc | refine rZ ?_ | refine wQ ?_))
          all_goals try exact False.elim kk
          have hS := an h13 <| an h36 <| an h37 <| h38; refine ⟨_, Nat.sub_lt (by omega) Nat.one_pos, j + 1, x', by omega, sl, sl, sl, sl, ?_⟩
          rw [recsB_succ hg, ← List.append_assoc, List.map_append, List.length_append]
          exact hacc
        · have hltI : ¬ ((j : Nat) : Int) < (m : Int) := by omega
          have hj2 : j = m := by omega
          subst hj2
          (have hF := an hp0 <| an h13 <| an h37 <| an h38 <| hltI; have hc := trivial; repeat' (first | refine wK ?_ | refine wX ?_ | refine rR ?_ | refine rB ?_ ?_ <;> intro ht <;> try simp only [bbs] at ht | refine rG ?_ ?_ <;> intro hc | refine rZ ?_ | refine wQ ?_))
          all_goals try exact False.elim kk
          exact gO_bytesR hr
      · refine ⟨0, .sl Hp.nil.g 1 0 B.length, by omega, rfl, rfl, rfl, rfl, ?_⟩
        have := racc_new (l := B ++ recsB rs 0) Hp.nil
        simpa [recsB] using this
theorem p_imade (i q : List Int) (st : Int) (rs : List RecordM) (m : Nat) (hil : i.length ≤ 1000) (hql : q.length ≤ 1000) (hrl : rs.length ≤ 100) (hml : m ≤ rs.length) (hst : 0 ≤ st ∧ st ≤ 255) (hro : ∀ r ∈ rs, recOk r) : pure Tryz.prog cfg0 42 Tryz.f42 [bytesL i, .v (.int .i64 st), bytesL q, .lst false (rs.map encRecord), .v (.int .i64 (m : Nat))] = some (bytesL (ansB i st (decide (m < rs.length)) q (rs.take m)), true) := (pq_imade i q st rs m hil hql hrl hml hst hro).1
end
end Go.Proofs.YtnejoidfbgklbaaGreatDoor
namespace Go.Proofs.YtnejoidfbgklbaaGreatDoor
open Go Go.RowKit Go.Proofs.YtnejoidfbgklbaaGreatDoor.Eng
set_option linter.unusedSimpArgs false
set_option linter.unusedVariables false
set_option maxRecDepth 100000
set_option maxHeartbeats 2000000
noncomputable section
/-- What holds between two parts of the code. -/
theorem wMid {P : Program} {cfg : Cfg} {fid : Nat} {c : Code} {s : St} {K : St → Prop} {Q0 : AX → St → Prop} (R : St → Prop) (h1 : Wp P cfg fid c s (thenQ R Q0)) (h2 : ∀ s, R s → K s) : Wp P cfg fid c s (thenQ K Q0) := wMono h1 fun x s h => by
  cases x with
  | normal => exact h2 s h
  | exit id => exact h
  | ret => exact h
theorem o_copy2 (a b : Int) : ∀ H, call Tryz.prog cfg0 1 55 [bytesL [a, b]] H = some (.sl H.g 1 0 [a, b].length, H.new ([a, b].map cell)) := fun H => by
  rw [o_sl1Copy [a, b] (by simp)]; exact mat_bytes 10 _ (by simp) H
/-- A slice at the head of a block that it fills. -/
def SlF (H : Hp) (x : AV) (l : List Int) : Prop := ∃ p, p < H.g ∧ x = .sl p 1 0 l.length ∧ H.h p = some (l.map cell)
theorem SlF.racc {H : Hp} {x : AV} {l : List Int} (h : SlF H x l) : RAcc H x 1 (l.map cell) l.length := by
  obtain ⟨p, h1, rfl, h2⟩ := h
  exact ⟨by simp, .inr ⟨p, h1, rfl, h2⟩⟩
theorem c_pairN {n : Nat} (hn : n ≤ 1000) : ∀ H, call Tryz.prog cfg0 0 68 [.v (.int .i64 (n : Nat))] H = some (bytesL (wordL (n : Nat) 2), H) := c_sl10Pair (n : Nat) (by omega)
theorem ok_sl10Answer : fnOk Tryz.prog cfg0 48 Tryz.f48 = true := by kernel_rfl
theorem pq_sl10Answer (a b : Int) (w : List Int) (st : Int) (cut : Bool) (rs : List RecordM) (hql : w.length ≤ 1000) (hrl : rs.length ≤ 100) (hst : 0 ≤ st ∧ st ≤ 255) (hro : ∀ r ∈ rs, recOk r) : pure Tryz.prog cfg0 48 Tryz.f48 [bytesL [a, b], .v (.int .i64 st), .v (.bool cut), bytesL w, .lst false (rs.map encRecord)] = some (bytesL (ansB [a, b] st cut w rs), true) ∧ owned Tryz.prog cfg0 48 Tryz.f48 [bytesL [a, b], .v (.int .i64 st), .v (.bool cut), bytesL w, .lst false (rs.map encRecord)] = some (bytesL (ansB [a, b] st cut w rs)) := by
  refine both_wp (rs := [.tmp 10]) rfl rfl ?_
  have hp0 : ∀ b, cfg0.pol 48 b = (if b = 14 then 1 else 0) := fun b => rfl
  have hs8 : st % 256 = st := by omega
  have q1 := fun H c n => apB (y := .lst true [[.v (.int .u8 132)], [.v (.int .u8 st)], [.v (.int .u8 0)], [.v (.int .u8 1)]]) (l := [132, st, 0, 1]) ⟨true, rfl⟩ (by simp) [a, b] (by simp) H c n
  have hcp := o_copy2 a b
  (have hF := an hp0 <| an hcp <| an wrap8 <| an hs8 <| an (aconv_int u2 u5) <| q1; have hc := trivial; repeat' ((fail_if_success (first | refine wAt 2 ?_ | refine wAtL 2 ?_)); first | refine wK ?_ | refine wX ?_ | refine rR ?_ | refine rB ?_ ?_ <;> intro ht <;> try simp only [bbs] at ht | refine rG ?_ ?_ <;> intro hc | refine rZ ?_ | refine wQ ?_))
  all_goals try exact False.elim kk
  refine wMid (fun s => s.1 1 = .v (.int .i64 st) ∧ s.1 3 = bytesL w ∧ s.1 4 = .lst false (rs.map encRecord) ∧ SlF s.2 (s.1 11) [a, b, if cut = true then 134 else 132, st, 0, 1]) ?_ ?_
  · have hlt2 : (2 < ([a, b] ++ [132, st, 0, 1]).length) = True := eq_true (by simp)
    cases cut with
    | true =>
      (have hF := an hp0 <| an hlt2 <| @Option.isSome_some.{0}; have hc := trivial; repeat' (first | refine wK ?_ | refine wX ?_ | refine rR ?_ | refine rB ?_ ?_ <;> intro ht <;> try simp only [bbs] at ht | refine rG ?_ ?_ <;> intro hc | refine rZ ?_ | refine wQ ?_))
      all_goals try exact False.elim kk
      show (_ = _) ∧ (_ = _) ∧ (_ = _) ∧ SlF _ _ _
      exact ⟨rfl, rfl, rfl, 1, show (1 : Nat) < 2 by omega, rfl, rfl⟩
    | false =>
      (have hF := an hp0 <| an hlt2 <| @Option.isSome_some.{0}; have hc := trivial; repeat' (first | refine wK ?_ | refine wX ?_ | refine rR ?_ | refine rB ?_ ?_ <;> intro ht <;> try simp only [bbs] at ht | refine rG ?_ ?_ <;> intro hc | refine rZ ?_ | refine wQ ?_))
      all_goals try exact False.elim kk
      show (_ = _) ∧ (_ = _) ∧ (_ = _) ∧ SlF _ _ _
      exact ⟨rfl, rfl, rfl, 1, show (1 : Nat) < 2 by omega, rfl, rfl⟩
  rintro ⟨e, H⟩ ⟨h1, h3, h4, p, hpg, h11, hh⟩
  simp only at h1 h3 h4 hpg h11 hh
  show Wp _ _ _ _ _ _
  have hans : [a, b, if cut = true then 134 else 132, st, 0, if st = 1 then 0 else 1] ++ (wordL (rs.length : Nat) 2 ++ ([0, 0, 0, 0] ++ w)) ++ recsB rs rs.length = ansB [a, b] st cut w rs := by
    unfold ansB recsB
    rw [hs8, List.take_length]
    simp [List.append_assoc]
  generalize (if cut = true then (134 : Int) else 132) = fl at *
  (have hF := hp0; have hc := trivial; repeat' ((fail_if_success (first | refine wAt 4 ?_ | refine wAtL 4 ?_)); first | refine wK ?_ | refine wX ?_ | refine rR ?_ | refine rB ?_ ?_ <;> intro ht <;> try simp only [bbs] at ht | refine rG ?_ ?_ <;> intro hc | refine rZ ?_ | refine wQ ?_))
  refine wMid (fun s => s.1 3 = bytesL w ∧ s.1 4 = .lst false (rs.map encRecord) ∧ SlF s.2 (s.1 11) [a, b, fl, st, 0, if st = 1 then 0 else 1]) ?_ ?_
  · have hlt5 : (5 < [a, b, fl, st, 0, 1].length) = True := eq_true (by simp)
    rcases Classical.em (st = 1) with hs1 | hs1
    · have hsT : (st = 1) = True := eq_true hs1
      rw [if_pos hs1]
      (have hF := an hp0 <| an h1 <| an h11 <| an hsT <| an hlt5 <| an hh <| @Option.isSome_some.{0}; have hc := trivial; repeat' (first | refine wK ?_ | refine wX ?_ | refine rR ?_ | refine rB ?_ ?_ <;> intro ht <;> try simp only [bbs] at ht | refine rG ?_ ?_ <;> intro hc | refine rZ ?_ | refine wQ ?_))
      all_goals try exact False.elim kk
      show (_ = _) ∧ (_ = _) ∧ SlF _ _ _
      refine ⟨?_, ?_, p, hpg, ?_, ?_⟩
      · simp only [upd_eq, put, Nat.reduceEqDiff, if_false, if_true]; exact h3
      · simp only [upd_eq, put, Nat.reduceEqDiff, if_false, if_true]; exact h4
      · simp only [upd_eq, put, Nat.reduceEqDiff, if_false, if_true]; exact h11
      · rw [Hp.set_h, if_pos rfl]; rfl
    · have hsT : (st = 1) = False := eq_false hs1
      rw [if_neg hs1]
      (have hF := an hp0 <| an h1 <| an h11 <| an hsT <| an hlt5 <| an hh <| @Option.isSome_some.{0}; have hc := trivial; repeat' (first | refine wK ?_ | refine wX ?_ | refine rR ?_ | refine rB ?_ ?_ <;> intro ht <;> try simp only [bbs] at ht | refine rG ?_ ?_ <;> intro hc | refine rZ ?_ | refine wQ ?_))
      all_goals try exact False.elim kk
      show (_ = _) ∧ (_ = _) ∧ SlF _ _ _
      refine ⟨?_, ?_, p, hpg, ?_, hh⟩
      · simp only [upd_eq, put, Nat.reduceEqDiff, if_false, if_true]; exact h3
      · simp only [upd_eq, put, Nat.reduceEqDiff, if_false, if_true]; exact h4
      · simp only [upd_eq, put, Nat.reduceEqDiff, if_false, if_true]; exact h11
  clear h1 h3 h4 hpg h11 hh
  rintro ⟨e, H⟩ ⟨h3, h4, hsl⟩
  simp only at h3 h4 hsl
  show Wp _ _ _ _ _ _
  have hra := hsl.racc
  obtain ⟨p, hpg, h11, hh⟩ := hsl
  rw [h11] at hra
  generalize (if st = 1 then (0 : Int) else 1) = ak at *
  have hpr := c_pairN (n := rs.length) (by omega)
  (have hF := hp0; have hc := trivial; repeat' ((fail_if_success (first | refine wAt 6 ?_ | refine wAtL 6 ?_)); first | refine wK ?_ | refine wX ?_ | refine rR ?_ | refine rB ?_ ?_ <;> intro ht <;> try simp only [bbs] at ht | refine rG ?_ ?_ <;> intro hc | refine rZ ?_ | refine wQ ?_))
  have hF := an hp0 <| an h4 <| an h11 <| an hpr <| @List.length_map.{0,0}; have hc := trivial; (try refine wX ?_); refine rN (fun xx hx => ?_); generalize hq : aappend Tryz.prog _ _ _ _ = q at hx
  obtain ⟨x1, K1, rfl, hac1, hg1, hk1, ho1⟩ := app_rows hq el22 zero5 by5 int22 (sz := 1) rfl (by omega) hra (alen_bytes _) (afirst_bytes _ _) (by simp) (by simp [wordL_len]) (by simp [wordL_len])
  clear hq
  subst hx; have hF := hp0; have hc := trivial; refine rN (fun xx hx => ?_); generalize hq : aappend Tryz.prog _ _ _ _ = q at hx
  obtain ⟨x2, K2, rfl, hac2, hg2, hk2, ho2⟩ := app_rows hq el22 zero5 by5 int22 (sz := 1) rfl (by omega) hac1 (show alen (.lst true [[.v (.int .u8 0)], [.v (.int .u8 0)], [.v (.int .u8 0)], [.v (.int .u8 0)]]) = some 4 from rfl) (show afirst K1 1 4 (.lst true [[.v (.int .u8 0)], [.v (.int .u8 0)], [.v (.int .u8 0)], [.v (.int .u8 0)]]) = some ([0, 0, 0, 0].map cell) from rfl) rfl (by simp [wordL_len]) (by simp [wordL_len])
  clear hq
  (subst hx; have hF := hp0; have hc := trivial; repeat' (first | refine rR ?_ | refine rG ?_ ?_ <;> intro hc | refine rZ ?_ | fail))
  (have hF := hp0; have hc := trivial; repeat' ((fail_if_success (first | refine wAt 7 ?_ | refine wAtL 7 ?_)); first | refine wK ?_ | refine wX ?_ | refine rR ?_ | refine rB ?_ ?_ <;> intro ht <;> try simp only [bbs] at ht | refine rG ?_ ?_ <;> intro hc | refine rZ ?_ | refine wQ ?_))
  have hF := an hp0 <| h3; have hc := trivial; (try refine wX ?_); refine rN (fun xx hx => ?_); generalize hq : aappend Tryz.prog _ _ _ _ = q at hx
  obtain ⟨x3, K3, rfl, hac3, hg3, hk3, ho3⟩ := app_rows hq el22 zero5 by5 int22 (sz := 1) rfl (by omega) hac2 (alen_bytes _) (afirst_bytes _ _) (by simp) (by simp [wordL_len]; omega) (by simp [wordL_len]; omega)
  clear hq
  (subst hx; have hF := hp0; have hc := trivial; repeat' (first | refine rR ?_ | refine rG ?_ ?_ <;> intro hc | refine rZ ?_ | fail))
  have hB : RAcc K3 x3 1 (([a, b, fl, st, 0, ak] ++ (wordL (rs.length : Nat) 2 ++ ([0, 0, 0, 0] ++ w))).map cell) ([a, b, fl, st, 0, ak] ++ (wordL (rs.length : Nat) 2 ++ ([0, 0, 0, 0] ++ w))).length := by
    have e1 : ([a, b, fl, st, 0, ak] ++ (wordL (rs.length : Nat) 2 ++ ([0, 0, 0, 0] ++ w))).length = [a, b, fl, st, 0, ak].length + (wordL (rs.length : Nat) 2).length + 4 + w.length := by simp [List.length_append]; omega
    rw [e1]
    simpa [List.map_append, List.append_assoc] using hac3
  have hBl : ([a, b, fl, st, 0, ak] ++ (wordL (rs.length : Nat) 2 ++ ([0, 0, 0, 0] ++ w))).length ≤ 2000 := by simp [wordL_len]; omega
  rw [← hans]
  generalize [a, b, fl, st, 0, ak] ++ (wordL (rs.length : Nat) 2 ++ ([0, 0, 0, 0] ++ w)) = B at *
  (have hF := hp0; have hc := trivial; repeat' (first | refine wK ?_ | refine wX ?_ | refine rR ?_ | refine rB ?_ ?_ <;> intro ht <;> try simp only [bbs] at ht | refine rG ?_ ?_ <;> intro hc | refine rZ ?_ | refine wQ ?_))
  refine wLoop (fun k s => ∃ (j : Nat) (x : AV), j + k = rs.length ∧ s.1 4 = .lst false (rs.map encRecord) ∧ s.1 11 = x ∧ s.1 12 = .v (.int .i64 (j : Nat)) ∧ (RAcc s.2 x 1 ((B ++ recsB rs j).map cell) (B ++ recsB rs j).length)) (fun k s hI => ?_) (rs.length) _ ?_
  · obtain ⟨e, H⟩ := s
    obtain ⟨j, x, hj, h4, h11, h12, hr⟩ := hI
    simp only at h4 h11 h12 hr
    have hll := recsB_len rs j
    have hBl2 : (B ++ recsB rs j).length ≤ 5000 := by rw [List.length_append]; omega
    by_cases hlt : j < rs.length
    · have hltI : ((j : Nat) : Int) < (rs.length : Int) := by omega
      obtain ⟨r, hg, -, hm1⟩ := at_drop hlt
      have hg' := map_at (f := encRecord) hg
      have hen := c_sl10Record r (hro r hm1)
      unfold encRecord at hen
      have hrl1 : (recB r).length ≤ 22 := by rw [recB_len]; split <;> omega
      have w1 : IntKind.wrap .i64 (((j : Nat) : Int) + 1) = ((j + 1 : Nat) : Int) := wrap_succ (by omega)
      (have hF := an hp0 <| an h4 <| an h12 <| an hltI <| @List.length_map.{0,0}; have hc := trivial; repeat' ((fail_if_success (first | refine wAt 11 ?_ | refine wAtL 11 ?_)); first | refine wK ?_ | refine wX ?_ | refine rR ?_ | refine rB ?_ ?_ <;> intro ht <;> try simp only [bbs] at ht | refine rG ?_ ?_ <;> intro hc | refine rZ ?_ | refine wQ ?_))
      all_goals try exact False.elim kk
      have hF := an hp0 <| an h4 <| an h11 <| an h12 <| an hg' <| an (show (encRecord r).length = 3 from rfl) <| hen; have hc := trivial; (try refine wX ?_); refine rN (fun xx hx => ?_); generalize hq : aappend Tryz.prog _ _ _ _ = q at hx
      obtain ⟨x', K4, rfl, hacc, hg4, hk4, ho4⟩ := app_rows hq el22 zero5 by5 int22 (sz := 1) rfl (by omega) hr (alen_bytes _) (afirst_bytes _ _) (by simp) (by omega) (by omega)
      clear hq
      (subst hx; have hF := hp0; have hc := trivial; repeat' (first | refine rR ?_ | refine rG ?_ ?_ <;> intro hc | refine rZ ?_ | fail))
      (have hF := an hp0 <| an h12 <| w1; have hc := trivial; repeat' (first | refine wK ?_ | refine wX ?_ | refine rR ?_ | refine rB ?_ ?_ <;> intro ht <;> try simp only [bbs] at ht | refine rG ?_ ?_ <;> intro hc | refine rZ ?_ | refine wQ ?_))
      all_goals try exact False.elim kk
      have hS := an h4 <| an h11 <| h12; refine ⟨_, Nat.sub_lt (by omega) Nat.one_pos, j + 1, x', by omega, sl, sl, sl, ?_⟩
      rw [recsB_succ hg, ← List.append_assoc, List.map_append, List.length_append]
      exact hacc
    · have hltI : ¬ ((j : Nat) : Int) < (rs.length : Int) := by omega
      have hj2 : j = rs.length := by omega
      subst hj2
      (have hF := an hp0 <| an h4 <| an h11 <| an h12 <| an hltI <| @List.length_map.{0,0}; have hc := trivial; repeat' (first | refine wK ?_ | refine wX ?_ | refine rR ?_ | refine rB ?_ ?_ <;> intro ht <;> try simp only [bbs] at ht | refine rG ?_ ?_ <;> intro hc | refine rZ ?_ | refine wQ ?_))
      all_goals try exact False.elim kk
      exact gO_bytesR hr
  · refine ⟨0, x3, by omega, ?_, ?_, ?_, ?_⟩
    · simp only [upd_eq, put, Nat.reduceEqDiff, if_false, if_true]; exact h4
    · simp only [upd_eq, put, Nat.reduceEqDiff, if_false, if_true]
    · rfl
    · simpa [recsB] using hB
theorem p_sl10Answer (a b : Int) (w : List Int) (st : Int) (cut : Bool) (rs : List RecordM) (hql : w.length ≤ 1000) (hrl : rs.length ≤ 100) (hst : 0 ≤ st ∧ st ≤ 255) (hro : ∀ r ∈ rs, recOk r) : pure Tryz.prog cfg0 48 Tryz.f48 [bytesL [a, b], .v (.int .i64 st), .v (.bool cut), bytesL w, .lst false (rs.map encRecord)] = some (bytesL (ansB [a, b] st cut w rs), true) := (pq_sl10Answer a b w st cut rs hql hrl hst hro).1
end
end Go.Proofs.YtnejoidfbgklbaaGreatDoor
