/- The law FnExactWordsOf in the engine. -/
import Derived.Test.YtlkoklhnodcipaaDoorW4
namespace Go.Proofs.YtlkoklhnodcipaaDoor.fnExactWordsOf
open Go Go.RowKit Go.Proofs.YtlkoklhnodcipaaDoor.Eng
set_option linter.unusedSimpArgs false
set_option linter.unusedVariables false
set_option maxRecDepth 100000
set_option maxHeartbeats 2000000
noncomputable section
theorem deep_tr {H : Hp} {b : Nat} {c : Int} {l : List ByteArray} (hb : H.h b = some (l.map txcell)) : deep H depthD (.agg [.v (.int .i64 c), .sl b 1 0 l.length]) = some (.agg [.v (.int .i64 c), textsL l]) := by
  have hd : deep H 11 (.sl b 1 0 l.length) = some (textsL l) := by
    show ((H.h b).bind fun cs => if 0 + l.length * 1 ≤ cs.length ∧ 0 < 1 then (((cs.drop 0).take (l.length * 1)).mapM (deep H 10)).map fun ds => AV.lst false (chunk 1 l.length ds) else none) = _
    have hcut : ((l.map txcell).drop 0).take (l.length * 1) = l.map txcell := by
      rw [List.drop_zero, Nat.mul_one, List.take_of_length_le (by simp)]
    rw [hb, Option.bind_some, hcut, if_pos ⟨by simp, by omega⟩]
    have h3 : (l.map txcell).mapM (deep H 10) = some (l.map txcell) := mapM_self fun x hx => by
      obtain ⟨z, -, rfl⟩ := List.mem_map.1 hx; rfl
    have := chunk_flat 1 (l.map fun s => [AV.v (.string s)]) (fun c hc => by obtain ⟨z, -, rfl⟩ := List.mem_map.1 hc; rfl)
    rw [txcells_flat, List.length_map] at this
    rw [h3, Option.map_some, this]; rfl
  show ([AV.v (.int .i64 c), .sl b 1 0 l.length].mapM (deep H 11)).map AV.agg = _
  rw [mapM_c (show deep H 11 (.v (.int .i64 c)) = some (.v (.int .i64 c)) from rfl) (mapM_c hd mapM_n)]; rfl
open Classical in
theorem cq_eqTR (c : Int) (a : List ByteArray) (d : Int) (b : List ByteArray) (hl : a.length ≤ 4000000) : ∀ H q, call Tryd.prog cfg0 0 6 [.agg [.v (.int .i64 c), .sl q 1 0 a.length], .agg [.v (.int .i64 d), textsL b]] H =
    if H.h q = some (a.map txcell) then some (.v (.bool (decide (c = d) && decide (a = b))), H) else call' Tryd.prog cfg0 0 6 [.agg [.v (.int .i64 c), .sl q 1 0 a.length], .agg [.v (.int .i64 d), textsL b]] H := fun H q =>
  call_if Tryd.func6 rfl ok_leqTextsResult rfl (fun hC => mapM_c (deep_tr hC) (mapM_c ((fz_tr d b).1 H) mapM_n)) (p_leqTextsResult c a d b hl)
open Classical in
theorem cq_heldTR (c q : Int) (n : Nat) (hn : n ≤ 4000000) (hk : 0 ≤ q ∧ q ≤ 1000000) : ∀ H b, call Tryd.prog cfg0 0 8 [.agg [.v (.int .i64 c), .sl b 1 0 n], .v (.int .i64 q)] H =
    if H.h b = some ((mks q n).map txcell) then some (.v (.int .i64 (q + n)), H) else call' Tryd.prog cfg0 0 8 [.agg [.v (.int .i64 c), .sl b 1 0 n], .v (.int .i64 q)] H := fun H b =>
  call_if Tryd.func8 rfl ok_lheldTextsResult rfl (fun hC => mapM_c (by have := deep_tr (c := c) hC; rw [mks_len] at this; exact this) (mapM_c rfl mapM_n)) (p_lheldTextsResult c q n hn hk)
open Classical in
theorem cr_mkTR (c q : Int) (l : List ByteArray) (hl : l.length ≤ 4000000) (hk : 0 ≤ q ∧ q ≤ 1000000) : ∀ H b, call Tryd.prog cfg0 0 7 [.agg [.v (.int .i64 c), .sl b 1 0 l.length], .v (.int .i64 q)] H =
    if H.h b = some (l.map txcell) ∧ b ≠ H.g then some (.v (.int .i64 (q + l.length)), (H.new [.v (.int .i64 c), .sl b 1 0 l.length]).set b ((mks q l.length).map txcell)) else call' Tryd.prog cfg0 0 7 [.agg [.v (.int .i64 c), .sl b 1 0 l.length], .v (.int .i64 q)] H := by
  intro H b
  split
  rotate_left
  · rfl
  rename_i hC
  exact d_mkTR c q l hl hk hC.1 hC.2
theorem mat_trs (c : Int) (l : List ByteArray) (hne : l ≠ []) (H : Hp) : mat depthD (.agg [.v (.int .i64 c), textsL l]) H = some (.agg [.v (.int .i64 c), .sl H.g 1 0 l.length], H.new (l.map txcell)) := mat_two (d := 10) (mat_texts 9 l hne H)
theorem wW_len (a : ByteArray) : (wW a.data.toList).length ≤ a.size + 1 := by
  have hsz : a.size = a.data.toList.length := by rw [ByteArray.size]; simp
  unfold wW; split
  · simp
  · rw [List.length_map]; have := words_size a.data.toList; omega
theorem ok_law : fnOk Tryd.prog cfg0 3 Tryd.f3 = true := by kernel_rfl
theorem p_law (a0 : ByteArray) (h0 : a0.size ≤ 140737488351232) : pure Tryd.prog cfg0 3 Tryd.f3 [.v (.string a0)] = some (.v (.bool true), true) := by
  refine pure_wp (rs := [.tmp 2]) rfl rfl ?_
  have hp0 : ∀ b, cfg0.pol 3 b = (if b = 14 then 1 else 0) := fun b => rfl
  by_cases o0 : 1048576 < (a0.size : Int)
  · repeat' (first | ((first | refine wSeqr (fun xx hx => ?_) | refine wIf (fun xx hx => ?_) | refine wReg (fun xx hx => ?_) | (refine wRet ?_; (try simp only [thenQ, blockQ]); refine ends_by (fun xx hx => ?_))); have hc := trivial; (repeat' (simp only [hc, Nat.reduceBEq, go_sem, Nat.reduceAdd, Nat.reduceMul, Nat.reduceSub, Nat.reduceEqDiff, Nat.reduceLT, Nat.reduceLeDiff, Int.reduceEq, Int.reduceLT, Int.reduceLE, reduceIte, aresults, aresult, hp0, o0] at hx; (try (rw [guardL_if] at hx; split at hx <;> rename_i hc)))); all_goals (subst hx; first | (refine ⟨_, rfl, fun ht => ?_, fun ht => ?_⟩ <;> (try simp only [bbs, beq_iff_eq, bne_iff_ne, ne_eq] at ht)) | (refine ⟨_, rfl, ?_⟩; (try simp only [tupOf])))) | refine wSkip ?_ | (refine wExit ?_; simp only [thenQ, blockQ, reduceIte, Nat.reduceEqDiff]) | refine wSeq ?_ | refine wBlock ?_)
    all_goals try (exfalso; (try simp only [bbs, beq_iff_eq, bne_iff_ne, ne_eq] at *); first | omega | exact absurd trivial (by assumption))
    all_goals exact ⟨rfl, rfl⟩
  have hs := c_sWordsOf a0 (by omega)
  have hi := c_iWordsOf a0 (by omega)
  have ho := o_iWordsOf a0 (by omega)
  have hlen := wW_len a0
  generalize wC a0.data.toList = c at *
  generalize wW a0.data.toList = l at *
  by_cases hne : l = []
  · subst hne
    have hq1 := c_leqTextsResult c [] c [] (by simp)
    have hq2 := c_lheldTextsResult c 1 0 (by omega) (by omega)
    have hm : mks 1 0 = [] := rfl
    rw [hm] at hq2
    have hq2' : ∀ H, call Tryd.prog cfg0 0 8 [.agg [.v (.int .i64 c), .lst false []], .v (.int .i64 1)] H = some (.v (.int .i64 1), H) := hq2
    have hq1' : ∀ H, call Tryd.prog cfg0 0 6 [.agg [.v (.int .i64 c), .lst false []], .agg [.v (.int .i64 c), .lst false []]] H = some (.v (.bool true), H) := fun H => by
      have := hq1 H
      simp only [decide_true, Bool.and_self] at this
      exact this
    have hs' : ∀ H, call Tryd.prog cfg0 0 4 [.v (.string a0)] H = some (.agg [.v (.int .i64 c), .lst false []], H) := hs
    have hi' : ∀ H, call Tryd.prog cfg0 0 5 [.v (.string a0)] H = some (.agg [.v (.int .i64 c), .lst false []], H) := hi
    have ho' : ∀ H, call Tryd.prog cfg0 1 5 [.v (.string a0)] H = some (.agg [.v (.int .i64 c), .lst false []], H) := ho
    repeat' (first | ((first | refine wSeqr (fun xx hx => ?_) | refine wIf (fun xx hx => ?_) | refine wReg (fun xx hx => ?_) | (refine wRet ?_; (try simp only [thenQ, blockQ]); refine ends_by (fun xx hx => ?_))); have hc := trivial; (repeat' (simp only [hc, Nat.reduceBEq, go_sem, Nat.reduceAdd, Nat.reduceMul, Nat.reduceSub, Nat.reduceEqDiff, Nat.reduceLT, Nat.reduceLeDiff, Int.reduceEq, Int.reduceLT, Int.reduceLE, reduceIte, aresults, aresult, hp0, o0, Option.getD_some, hs', hi', ho', hq1', hq2', cr_mkTR0] at hx; (try (rw [guardL_if] at hx; split at hx <;> rename_i hc)))); all_goals (subst hx; first | (refine ⟨_, rfl, fun ht => ?_, fun ht => ?_⟩ <;> (try simp only [bbs, beq_iff_eq, bne_iff_ne, ne_eq] at ht)) | (refine ⟨_, rfl, ?_⟩; (try simp only [tupOf])))) | refine wSkip ?_ | (refine wExit ?_; simp only [thenQ, blockQ, reduceIte, Nat.reduceEqDiff]) | refine wSeq ?_ | refine wBlock ?_)
    all_goals try (exfalso; (try simp only [bbs, beq_iff_eq, bne_iff_ne, ne_eq] at *); first | omega | exact absurd trivial (by assumption))
    all_goals exact ⟨rfl, rfl⟩
  · have ho' : ∀ H, call Tryd.prog cfg0 1 5 [.v (.string a0)] H = some (.agg [.v (.int .i64 c), .sl H.g 1 0 l.length], H.new (l.map txcell)) := fun H => by rw [ho H, mat_trs c l hne]
    have hl1 : l.length ≤ 4000000 := by omega
    have hk : (0 : Int) ≤ 1 ∧ (1 : Int) ≤ 1000000 := by omega
    have hn0 : ¬ (1 + (l.length : Int)) < 0 := by omega
    repeat' (first | ((first | refine wSeqr (fun xx hx => ?_) | refine wIf (fun xx hx => ?_) | refine wReg (fun xx hx => ?_) | (refine wRet ?_; (try simp only [thenQ, blockQ]); refine ends_by (fun xx hx => ?_))); have hc := trivial; (repeat' (simp only [hc, Nat.reduceBEq, go_sem, Nat.reduceAdd, Nat.reduceMul, Nat.reduceSub, Nat.reduceEqDiff, Nat.reduceLT, Nat.reduceLeDiff, Int.reduceEq, Int.reduceLT, Int.reduceLE, reduceIte, aresults, aresult, hp0, o0, Option.getD_some, hs, hi, ho', cq_eqTR c l c l hl1, c_leqTextsResult c l c l hl1, decide_true, Bool.and_self, Bool.not_true, cr_mkTR c 1 l hl1 hk, cq_heldTR c 1 l.length hl1 hk, hn0] at hx; (try (rw [guardL_if] at hx; split at hx <;> rename_i hc)))); all_goals (subst hx; first | (refine ⟨_, rfl, fun ht => ?_, fun ht => ?_⟩ <;> (try simp only [bbs, beq_iff_eq, bne_iff_ne, ne_eq] at ht)) | (refine ⟨_, rfl, ?_⟩; (try simp only [tupOf])))) | refine wSkip ?_ | (refine wExit ?_; simp only [thenQ, blockQ, reduceIte, Nat.reduceEqDiff]) | refine wSeq ?_ | refine wBlock ?_)
    all_goals try (exfalso; (try simp only [bbs, beq_iff_eq, bne_iff_ne, ne_eq] at *); first | omega | exact absurd trivial (by assumption))
    all_goals exact ⟨rfl, rfl⟩
theorem c_law (a0 : ByteArray) (h0 : a0.size ≤ 140737488351232) : ∀ H, call Tryd.prog cfg0 0 3 [.v (.string a0)] H = some (.v (.bool true), H) :=
  call_fz Tryd.func3 rfl ok_law rfl (by simp only [fz_cons, fz_nil, go_sem, and_self]) (p_law a0 h0)

theorem law (xs : List AV) (h : ArgsC Tryd.prog reach 1 [9] xs) : pure Tryd.prog cfg0 3 Tryd.f3 xs = some (.v (.bool true), true) := by
  obtain ⟨x0, r0, rfl, h0, rfl⟩ := h
  unfold ArgC at h0
  rw [agg9] at h0
  obtain ⟨a0, e0, k0⟩ := (shC_string u9).1 h0
  simp only [List.cons.injEq, and_true] at e0
  subst e0
  exact p_law a0 (by simp only [reach, Nat.mul_one] at k0; exact k0)
end
end Go.Proofs.YtlkoklhnodcipaaDoor.fnExactWordsOf
