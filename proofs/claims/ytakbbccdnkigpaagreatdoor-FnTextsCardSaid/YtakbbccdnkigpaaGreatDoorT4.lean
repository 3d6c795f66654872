/- Contracts: events of words, the program's side. -/
import Derived.Test.YtakbbccdnkigpaaGreatDoorTP
namespace Go.Proofs.YtakbbccdnkigpaaGreatDoor
open Go Go.RowKit Go.Proofs.YtakbbccdnkigpaaGreatDoor.Eng
set_option linter.unusedSimpArgs false
set_option linter.unusedVariables false
set_option maxRecDepth 100000
set_option maxHeartbeats 4000000
noncomputable section

theorem ok_parsed : fnOk Tryz.prog cfg0 32 Tryz.f32 = true := by kernel_rfl
theorem ns1 (x : UInt8) : (((#[x] : Array UInt8).size : Nat) : Int) = 1 := rfl
theorem ns2 (x y : UInt8) : (((#[x, y] : Array UInt8).size : Nat) : Int) = 2 := rfl
theorem ns3 (x y z : UInt8) : (((#[x, y, z] : Array UInt8).size : Nat) : Int) = 3 := rfl
theorem tn78 : ((UInt8.toNat 78 : Nat) : Int) = 78 := rfl
theorem tn72 : ((UInt8.toNat 72 : Nat) : Int) = 72 := rfl
theorem wr1 : IntKind.wrap .i64 (0 + 1) = 1 := by decide
theorem wr2 : IntKind.wrap .i64 (1 + 1) = 2 := by decide
theorem wr3 : IntKind.wrap .i64 (2 + 1) = 3 := by decide
theorem b4 : IntKind.wrap .i64 (0 + 1) = 1 ∧ IntKind.wrap .i64 (1 + 1) = 2 ∧ IntKind.wrap .i64 (2 + 1) = 3 ∧ ((UInt8.toNat 78 : Nat) : Int) = 78 ∧ ((UInt8.toNat 72 : Nat) : Int) = 72 ∧ (∀ x : UInt8, (((#[x] : Array UInt8).size : Nat) : Int) = 1) ∧ (∀ x y : UInt8, (((#[x, y] : Array UInt8).size : Nat) : Int) = 2) ∧ (∀ x y z : UInt8, (((#[x, y, z] : Array UInt8).size : Nat) : Int) = 3) := ⟨wr1, wr2, wr3, tn78, tn72, ns1, ns2, ns3⟩
theorem own_at {H : Hp} {x : AV} {n : Nat} {cs : List AV} (h : RAcc H x 1 cs (n + 1)) : ∃ p, p < H.g ∧ x = .sl p 1 0 (n + 1) ∧ H.h p = some cs := by
  rcases h.2 with ⟨h0, -⟩ | ⟨p, h1, h2, h3⟩
  · omega
  · exact ⟨p, h1, h2, h3⟩
theorem p_parsed_tick (w a : ByteArray) (hw : w.data.toList = [116, 105, 99, 107]) (hz : ∀ z ∈ [w, a], z.size ≤ 1048576) : ∃ v cl, EvQ (evS [w, a]) v ∧ pure Tryz.prog cfg0 32 Tryz.f32 [textsL [w, a]] = some (v, cl) := by
  refine pure_ex (rs := [.cell 2 26, .tmp 3]) rfl rfl ?_
  have hp0 : ∀ b, cfg0.pol 32 b = (if b = 111 then 3 else if b = 112 then 3 else if b = 114 then 3 else if b = 115 then 3 else if b = 116 then 3 else if b = 135 then 3 else if b = 136 then 3 else if b = 1000000 then 2 else 0) := fun b => rfl
  have hf := c_form_tick w hw
  have T : textsL [w, a] = .lst false [[.v (.string w)], [.v (.string a)]] := rfl
  have hsl := slice_rest (c := [.v (.string w)]) (xs := [[.v (.string a)]]) rfl
  have e_tick : (w.data.toList = [116, 105, 99, 107]) = True := eq_true hw
  have e_stop : (w.data.toList = [115, 116, 111, 112]) = False := eq_false (by rw [hw]; decide)
  have e_come : (w.data.toList = [99, 111, 109, 101]) = False := eq_false (by rw [hw]; decide)
  have e_close : (w.data.toList = [108, 111, 115, 101]) = False := eq_false (by rw [hw]; decide)
  have e_copy : (w.data.toList = [99, 111, 112, 121]) = False := eq_false (by rw [hw]; decide)
  have e_turn : (w.data.toList = [116, 117, 114, 110]) = False := eq_false (by rw [hw]; decide)
  have e_push : (w.data.toList = [112, 117, 115, 104]) = False := eq_false (by rw [hw]; decide)
  have e_install : (w.data.toList = [105, 110, 115, 116, 97, 108, 108]) = False := eq_false (by rw [hw]; decide)
  have e_use : (w.data.toList = [117, 115, 101]) = False := eq_false (by rw [hw]; decide)
  have e_remove : (w.data.toList = [114, 101, 109, 111, 118, 101]) = False := eq_false (by rw [hw]; decide)
  have hev : evS [w, a] = evS [w, a] := rfl
  conv at hev => rhs; simp only [evS, evK, key3, e_tick, e_stop, e_come, e_close, e_copy, e_turn, e_push, e_install, e_use, e_remove, if_true, if_false]
  rw [hev]
  clear hev
  unfold num
  have cna := c_iNumberOf a (hz a (by simp))
  unfold numC numV at cna
  generalize numOf 7 a.data.toList = na at *
  repeat' (first | ((first | refine wSeqrF ?_ | refine wIf ?_ | refine wRegF ?_ | (refine wRet ?_; (try simp only [thenQ, blockQ]); refine ends_by ?_)); intro xx hx; have hc := trivial; (repeat' (simp only [hc, Nat.reduceBEq, go_sem, Nat.reduceAdd, Nat.reduceMul, Nat.reduceSub, Nat.reduceEqDiff, Nat.reduceLT, Nat.reduceLeDiff, Int.reduceEq, Int.reduceLT, Int.reduceLE, reduceIte, aresults, aresult, hp0, b4, b2, textsL, hf, hsl] at hx; (try (rw [guardF_if] at hx; split at hx <;> rename_i hc)))); all_goals (subst hx; first | (refine ⟨_, rfl, fun ht => ?_, fun ht => ?_⟩ <;> (try simp only [bbs] at ht)) | (refine ⟨_, rfl, ?_⟩; (try simp only [tupOf])))) | refine wSkip ?_ | (refine wExit ?_; simp only [thenQ, blockQ, reduceIte, Nat.reduceEqDiff]) | refine wSeq ?_ | refine wBlock ?_)
  all_goals try (exfalso; (try simp only [bbs] at *); first | omega | exact absurd trivial (by assumption))
  refine wUnroll ?_
  by_cases ha : na < 0
  · simp only [if_pos ha] at cna
    repeat' (first | ((first | refine wSeqrF ?_ | refine wIf ?_ | refine wRegF ?_ | (refine wRet ?_; (try simp only [thenQ, blockQ]); refine ends_by ?_)); intro xx hx; have hc := trivial; (repeat' (simp only [hc, Nat.reduceBEq, go_sem, Nat.reduceAdd, Nat.reduceMul, Nat.reduceSub, Nat.reduceEqDiff, Nat.reduceLT, Nat.reduceLeDiff, Int.reduceEq, Int.reduceLT, Int.reduceLE, reduceIte, aresults, aresult, hp0, b4, b2, textsL, hf, hsl, cna] at hx; (try (rw [guardF_if] at hx; split at hx <;> rename_i hc)))); all_goals (subst hx; first | (refine ⟨_, rfl, fun ht => ?_, fun ht => ?_⟩ <;> (try simp only [bbs] at ht)) | (refine ⟨_, rfl, ?_⟩; (try simp only [tupOf])))) | refine wSkip ?_ | (refine wExit ?_; simp only [thenQ, blockQ, reduceIte, Nat.reduceEqDiff]) | refine wSeq ?_ | refine wBlock ?_)
    all_goals try (exfalso; (try simp only [bbs] at *); first | omega | exact absurd trivial (by assumption))
    all_goals first | exact ev_leaf (by first | exact dN | exact dB _ | exact dE | exact dO _) (by first | exact dN | exact dB _ | exact dE | exact dO _) (by simp [*]) (fun z hz => by simp [*] at hz) | skip
  simp only [if_neg ha] at cna
  repeat' ((fail_if_success (first | refine wAt 20 ?_)); first | ((first | refine wSeqrF ?_ | refine wIf ?_ | refine wRegF ?_ | (refine wRet ?_; (try simp only [thenQ, blockQ]); refine ends_by ?_)); intro xx hx; have hc := trivial; (repeat' (simp only [hc, Nat.reduceBEq, go_sem, Nat.reduceAdd, Nat.reduceMul, Nat.reduceSub, Nat.reduceEqDiff, Nat.reduceLT, Nat.reduceLeDiff, Int.reduceEq, Int.reduceLT, Int.reduceLE, reduceIte, aresults, aresult, hp0, b4, b2, textsL, hf, hsl, cna] at hx; (try (rw [guardF_if] at hx; split at hx <;> rename_i hc)))); all_goals (subst hx; first | (refine ⟨_, rfl, fun ht => ?_, fun ht => ?_⟩ <;> (try simp only [bbs] at ht)) | (refine ⟨_, rfl, ?_⟩; (try simp only [tupOf])))) | refine wSkip ?_ | (refine wExit ?_; simp only [thenQ, blockQ, reduceIte, Nat.reduceEqDiff]) | refine wSeq ?_ | refine wBlock ?_)
  all_goals try (exfalso; (try simp only [bbs] at *); first | omega | exact absurd trivial (by assumption))
  (first | refine wSeqrF ?_ | refine wRegF ?_); intro xx hx; have hc := trivial; (repeat' (simp only [hc, Nat.reduceBEq, go_sem, Nat.reduceAdd, Nat.reduceMul, Nat.reduceSub, Nat.reduceEqDiff, Nat.reduceLT, Nat.reduceLeDiff, Int.reduceEq, Int.reduceLT, Int.reduceLE, reduceIte, aresults, aresult, hp0, b4, b2, textsL, hf, hsl] at hx; (try (rw [guardF_if] at hx; split at hx <;> rename_i hc)))); generalize hq : aappend Tryz.prog _ _ _ _ = q at hx
  obtain ⟨xa, Ka, rfl, hacca, hga, hka, hoa⟩ := app_rows hq el97 zero2 by2 int97 (sz := 1) rfl (by omega) RAcc.nil (m := 1) rfl (afirst_one _ _ [AV.v (.int .i64 na)]) rfl (by omega) (by omega)
  clear hq
  simp only [Hp.set_g, Hp.new_g, Hp.nil, List.nil_append, List.cons_append, Nat.zero_add, Nat.reduceAdd] at hga hka hacca hoa
  have k0a : Ka.h 0 = some [AV.v (.int .i64 0), .v (.int .i64 0), .v (.int .i64 0), .v (.int .i64 0), .v (.slice none 0 0), .v (.int .i64 0), .v (.int .i64 0), .v (.slice none 0 0)] := (hka 0 (by omega) off_nil).trans rfl
  have f0a : Off 0 xa := hoa 0 (by omega) off_nil
  have g0a : (0 = Ka.g) = False := eq_false (by omega)
  have g1a : (Ka.g = 0) = False := eq_false (by omega)
  obtain ⟨p, hpp, rfl, hh⟩ := own_at hacca
  have q1 : (p = Ka.g) = False := eq_false (by omega)
  have q2 : (Ka.g = p) = False := eq_false (by omega)
  have q3 : (p = 0) = False := eq_false (fun e => f0a _ _ _ (by rw [e]))
  have q4 : (0 = p) = False := eq_false (fun e => f0a _ _ _ (by rw [← e]))
  have hc := trivial; (repeat' (simp only [hc, Nat.reduceBEq, go_sem, Nat.reduceAdd, Nat.reduceMul, Nat.reduceSub, Nat.reduceEqDiff, Nat.reduceLT, Nat.reduceLeDiff, Int.reduceEq, Int.reduceLT, Int.reduceLE, reduceIte, aresults, aresult, hp0, b4, b2, textsL, hf, hsl] at hx; (try (rw [guardF_if] at hx; split at hx <;> rename_i hc)))); all_goals (subst hx; refine ⟨_, rfl, ?_⟩)
  repeat' (first | ((first | refine wSeqrF ?_ | refine wIf ?_ | refine wRegF ?_ | (refine wRet ?_; (try simp only [thenQ, blockQ]); refine ends_by ?_)); intro xx hx; have hc := trivial; (repeat' (simp only [hc, Nat.reduceBEq, go_sem, Nat.reduceAdd, Nat.reduceMul, Nat.reduceSub, Nat.reduceEqDiff, Nat.reduceLT, Nat.reduceLeDiff, Int.reduceEq, Int.reduceLT, Int.reduceLE, reduceIte, aresults, aresult, hp0, b4, b2, textsL, hf, hsl, hh, q1, q2, q3, q4, k0a, g0a, g1a, Option.isSome_some] at hx; (try (rw [guardF_if] at hx; split at hx <;> rename_i hc)))); all_goals (subst hx; first | (refine ⟨_, rfl, fun ht => ?_, fun ht => ?_⟩ <;> (try simp only [bbs] at ht)) | (refine ⟨_, rfl, ?_⟩; (try simp only [tupOf])))) | refine wSkip ?_ | (refine wExit ?_; simp only [thenQ, blockQ, reduceIte, Nat.reduceEqDiff]) | refine wSeq ?_ | refine wBlock ?_)
  all_goals try (exfalso; (try simp only [bbs] at *); first | omega | exact absurd trivial (by assumption))
  refine wUnroll ?_
  repeat' (first | ((first | refine wSeqrF ?_ | refine wIf ?_ | refine wRegF ?_ | (refine wRet ?_; (try simp only [thenQ, blockQ]); refine ends_by ?_)); intro xx hx; have hc := trivial; (repeat' (simp only [hc, Nat.reduceBEq, go_sem, Nat.reduceAdd, Nat.reduceMul, Nat.reduceSub, Nat.reduceEqDiff, Nat.reduceLT, Nat.reduceLeDiff, Int.reduceEq, Int.reduceLT, Int.reduceLE, reduceIte, aresults, aresult, hp0, b4, b2, textsL, hf, hsl, hh, q1, q2, q3, q4, k0a, g0a, g1a, Option.isSome_some] at hx; (try (rw [guardF_if] at hx; split at hx <;> rename_i hc)))); all_goals (subst hx; first | (refine ⟨_, rfl, fun ht => ?_, fun ht => ?_⟩ <;> (try simp only [bbs] at ht)) | (refine ⟨_, rfl, ?_⟩; (try simp only [tupOf])))) | refine wSkip ?_ | (refine wExit ?_; simp only [thenQ, blockQ, reduceIte, Nat.reduceEqDiff]) | refine wSeq ?_ | refine wBlock ?_)
  all_goals try (exfalso; (try simp only [bbs] at *); first | omega | exact absurd trivial (by assumption))
  (try rw [if_neg ha]); (try rw [if_neg (by omega)]); (try rw [if_pos (by omega)]); (try simp only [Option.map_some])
  all_goals first | exact ev_leaf (by first | exact dN | exact dB _ | exact dE | exact dO _) (by first | exact dN | exact dB _ | exact dE | exact dO _) rfl (fun z hz => by first | (cases hz; rfl) | cases hz)
theorem p_parsed_stop (w a : ByteArray) (hw : w.data.toList = [115, 116, 111, 112]) (hz : ∀ z ∈ [w, a], z.size ≤ 1048576) : ∃ v cl, EvQ (evS [w, a]) v ∧ pure Tryz.prog cfg0 32 Tryz.f32 [textsL [w, a]] = some (v, cl) := by
  refine pure_ex (rs := [.cell 2 26, .tmp 3]) rfl rfl ?_
  have hp0 : ∀ b, cfg0.pol 32 b = (if b = 111 then 3 else if b = 112 then 3 else if b = 114 then 3 else if b = 115 then 3 else if b = 116 then 3 else if b = 135 then 3 else if b = 136 then 3 else if b = 1000000 then 2 else 0) := fun b => rfl
  have hf := c_form_stop w hw
  have T : textsL [w, a] = .lst false [[.v (.string w)], [.v (.string a)]] := rfl
  have hsl := slice_rest (c := [.v (.string w)]) (xs := [[.v (.string a)]]) rfl
  have e_tick : (w.data.toList = [116, 105, 99, 107]) = False := eq_false (by rw [hw]; decide)
  have e_stop : (w.data.toList = [115, 116, 111, 112]) = True := eq_true hw
  have e_come : (w.data.toList = [99, 111, 109, 101]) = False := eq_false (by rw [hw]; decide)
  have e_close : (w.data.toList = [108, 111, 115, 101]) = False := eq_false (by rw [hw]; decide)
  have e_copy : (w.data.toList = [99, 111, 112, 121]) = False := eq_false (by rw [hw]; decide)
  have e_turn : (w.data.toList = [116, 117, 114, 110]) = False := eq_false (by rw [hw]; decide)
  have e_push : (w.data.toList = [112, 117, 115, 104]) = False := eq_false (by rw [hw]; decide)
  have e_install : (w.data.toList = [105, 110, 115, 116, 97, 108, 108]) = False := eq_false (by rw [hw]; decide)
  have e_use : (w.data.toList = [117, 115, 101]) = False := eq_false (by rw [hw]; decide)
  have e_remove : (w.data.toList = [114, 101, 109, 111, 118, 101]) = False := eq_false (by rw [hw]; decide)
  have hev : evS [w, a] = evS [w, a] := rfl
  conv at hev => rhs; simp only [evS, evK, key3, e_tick, e_stop, e_come, e_close, e_copy, e_turn, e_push, e_install, e_use, e_remove, if_true, if_false]
  rw [hev]
  clear hev
  unfold num
  have cna := c_iNumberOf a (hz a (by simp))
  unfold numC numV at cna
  generalize numOf 7 a.data.toList = na at *
  repeat' (first | ((first | refine wSeqrF ?_ | refine wIf ?_ | refine wRegF ?_ | (refine wRet ?_; (try simp only [thenQ, blockQ]); refine ends_by ?_)); intro xx hx; have hc := trivial; (repeat' (simp only [hc, Nat.reduceBEq, go_sem, Nat.reduceAdd, Nat.reduceMul, Nat.reduceSub, Nat.reduceEqDiff, Nat.reduceLT, Nat.reduceLeDiff, Int.reduceEq, Int.reduceLT, Int.reduceLE, reduceIte, aresults, aresult, hp0, b4, b2, textsL, hf, hsl] at hx; (try (rw [guardF_if] at hx; split at hx <;> rename_i hc)))); all_goals (subst hx; first | (refine ⟨_, rfl, fun ht => ?_, fun ht => ?_⟩ <;> (try simp only [bbs] at ht)) | (refine ⟨_, rfl, ?_⟩; (try simp only [tupOf])))) | refine wSkip ?_ | (refine wExit ?_; simp only [thenQ, blockQ, reduceIte, Nat.reduceEqDiff]) | refine wSeq ?_ | refine wBlock ?_)
  all_goals try (exfalso; (try simp only [bbs] at *); first | omega | exact absurd trivial (by assumption))
  refine wUnroll ?_
  by_cases ha : na < 0
  · simp only [if_pos ha] at cna
    repeat' (first | ((first | refine wSeqrF ?_ | refine wIf ?_ | refine wRegF ?_ | (refine wRet ?_; (try simp only [thenQ, blockQ]); refine ends_by ?_)); intro xx hx; have hc := trivial; (repeat' (simp only [hc, Nat.reduceBEq, go_sem, Nat.reduceAdd, Nat.reduceMul, Nat.reduceSub, Nat.reduceEqDiff, Nat.reduceLT, Nat.reduceLeDiff, Int.reduceEq, Int.reduceLT, Int.reduceLE, reduceIte, aresults, aresult, hp0, b4, b2, textsL, hf, hsl, cna] at hx; (try (rw [guardF_if] at hx; split at hx <;> rename_i hc)))); all_goals (subst hx; first | (refine ⟨_, rfl, fun ht => ?_, fun ht => ?_⟩ <;> (try simp only [bbs] at ht)) | (refine ⟨_, rfl, ?_⟩; (try simp only [tupOf])))) | refine wSkip ?_ | (refine wExit ?_; simp only [thenQ, blockQ, reduceIte, Nat.reduceEqDiff]) | refine wSeq ?_ | refine wBlock ?_)
    all_goals try (exfalso; (try simp only [bbs] at *); first | omega | exact absurd trivial (by assumption))
    all_goals first | exact ev_leaf (by first | exact dN | exact dB _ | exact dE | exact dO _) (by first | exact dN | exact dB _ | exact dE | exact dO _) (by simp [*]) (fun z hz => by simp [*] at hz) | skip
  simp only [if_neg ha] at cna
  repeat' ((fail_if_success (first | refine wAt 20 ?_)); first | ((first | refine wSeqrF ?_ | refine wIf ?_ | refine wRegF ?_ | (refine wRet ?_; (try simp only [thenQ, blockQ]); refine ends_by ?_)); intro xx hx; have hc := trivial; (repeat' (simp only [hc, Nat.reduceBEq, go_sem, Nat.reduceAdd, Nat.reduceMul, Nat.reduceSub, Nat.reduceEqDiff, Nat.reduceLT, Nat.reduceLeDiff, Int.reduceEq, Int.reduceLT, Int.reduceLE, reduceIte, aresults, aresult, hp0, b4, b2, textsL, hf, hsl, cna] at hx; (try (rw [guardF_if] at hx; split at hx <;> rename_i hc)))); all_goals (subst hx; first | (refine ⟨_, rfl, fun ht => ?_, fun ht => ?_⟩ <;> (try simp only [bbs] at ht)) | (refine ⟨_, rfl, ?_⟩; (try simp only [tupOf])))) | refine wSkip ?_ | (refine wExit ?_; simp only [thenQ, blockQ, reduceIte, Nat.reduceEqDiff]) | refine wSeq ?_ | refine wBlock ?_)
  all_goals try (exfalso; (try simp only [bbs] at *); first | omega | exact absurd trivial (by assumption))
  (first | refine wSeqrF ?_ | refine wRegF ?_); intro xx hx; have hc := trivial; (repeat' (simp only [hc, Nat.reduceBEq, go_sem, Nat.reduceAdd, Nat.reduceMul, Nat.reduceSub, Nat.reduceEqDiff, Nat.reduceLT, Nat.reduceLeDiff, Int.reduceEq, Int.reduceLT, Int.reduceLE, reduceIte, aresults, aresult, hp0, b4, b2, textsL, hf, hsl] at hx; (try (rw [guardF_if] at hx; split at hx <;> rename_i hc)))); generalize hq : aappend Tryz.prog _ _ _ _ = q at hx
  obtain ⟨xa, Ka, rfl, hacca, hga, hka, hoa⟩ := app_rows hq el97 zero2 by2 int97 (sz := 1) rfl (by omega) RAcc.nil (m := 1) rfl (afirst_one _ _ [AV.v (.int .i64 na)]) rfl (by omega) (by omega)
  clear hq
  simp only [Hp.set_g, Hp.new_g, Hp.nil, List.nil_append, List.cons_append, Nat.zero_add, Nat.reduceAdd] at hga hka hacca hoa
  have k0a : Ka.h 0 = some [AV.v (.int .i64 0), .v (.int .i64 0), .v (.int .i64 0), .v (.int .i64 0), .v (.slice none 0 0), .v (.int .i64 0), .v (.int .i64 0), .v (.slice none 0 0)] := (hka 0 (by omega) off_nil).trans rfl
  have f0a : Off 0 xa := hoa 0 (by omega) off_nil
  have g0a : (0 = Ka.g) = False := eq_false (by omega)
  have g1a : (Ka.g = 0) = False := eq_false (by omega)
  obtain ⟨p, hpp, rfl, hh⟩ := own_at hacca
  have q1 : (p = Ka.g) = False := eq_false (by omega)
  have q2 : (Ka.g = p) = False := eq_false (by omega)
  have q3 : (p = 0) = False := eq_false (fun e => f0a _ _ _ (by rw [e]))
  have q4 : (0 = p) = False := eq_false (fun e => f0a _ _ _ (by rw [← e]))
  have hc := trivial; (repeat' (simp only [hc, Nat.reduceBEq, go_sem, Nat.reduceAdd, Nat.reduceMul, Nat.reduceSub, Nat.reduceEqDiff, Nat.reduceLT, Nat.reduceLeDiff, Int.reduceEq, Int.reduceLT, Int.reduceLE, reduceIte, aresults, aresult, hp0, b4, b2, textsL, hf, hsl] at hx; (try (rw [guardF_if] at hx; split at hx <;> rename_i hc)))); all_goals (subst hx; refine ⟨_, rfl, ?_⟩)
  repeat' (first | ((first | refine wSeqrF ?_ | refine wIf ?_ | refine wRegF ?_ | (refine wRet ?_; (try simp only [thenQ, blockQ]); refine ends_by ?_)); intro xx hx; have hc := trivial; (repeat' (simp only [hc, Nat.reduceBEq, go_sem, Nat.reduceAdd, Nat.reduceMul, Nat.reduceSub, Nat.reduceEqDiff, Nat.reduceLT, Nat.reduceLeDiff, Int.reduceEq, Int.reduceLT, Int.reduceLE, reduceIte, aresults, aresult, hp0, b4, b2, textsL, hf, hsl, hh, q1, q2, q3, q4, k0a, g0a, g1a, Option.isSome_some] at hx; (try (rw [guardF_if] at hx; split at hx <;> rename_i hc)))); all_goals (subst hx; first | (refine ⟨_, rfl, fun ht => ?_, fun ht => ?_⟩ <;> (try simp only [bbs] at ht)) | (refine ⟨_, rfl, ?_⟩; (try simp only [tupOf])))) | refine wSkip ?_ | (refine wExit ?_; simp only [thenQ, blockQ, reduceIte, Nat.reduceEqDiff]) | refine wSeq ?_ | refine wBlock ?_)
  all_goals try (exfalso; (try simp only [bbs] at *); first | omega | exact absurd trivial (by assumption))
  refine wUnroll ?_
  repeat' (first | ((first | refine wSeqrF ?_ | refine wIf ?_ | refine wRegF ?_ | (refine wRet ?_; (try simp only [thenQ, blockQ]); refine ends_by ?_)); intro xx hx; have hc := trivial; (repeat' (simp only [hc, Nat.reduceBEq, go_sem, Nat.reduceAdd, Nat.reduceMul, Nat.reduceSub, Nat.reduceEqDiff, Nat.reduceLT, Nat.reduceLeDiff, Int.reduceEq, Int.reduceLT, Int.reduceLE, reduceIte, aresults, aresult, hp0, b4, b2, textsL, hf, hsl, hh, q1, q2, q3, q4, k0a, g0a, g1a, Option.isSome_some] at hx; (try (rw [guardF_if] at hx; split at hx <;> rename_i hc)))); all_goals (subst hx; first | (refine ⟨_, rfl, fun ht => ?_, fun ht => ?_⟩ <;> (try simp only [bbs] at ht)) | (refine ⟨_, rfl, ?_⟩; (try simp only [tupOf])))) | refine wSkip ?_ | (refine wExit ?_; simp only [thenQ, blockQ, reduceIte, Nat.reduceEqDiff]) | refine wSeq ?_ | refine wBlock ?_)
  all_goals try (exfalso; (try simp only [bbs] at *); first | omega | exact absurd trivial (by assumption))
  (try rw [if_neg ha]); (try rw [if_neg (by omega)]); (try rw [if_pos (by omega)]); (try simp only [Option.map_some])
  all_goals first | exact ev_leaf (by first | exact dN | exact dB _ | exact dE | exact dO _) (by first | exact dN | exact dB _ | exact dE | exact dO _) rfl (fun z hz => by first | (cases hz; rfl) | cases hz)
theorem p_parsed_come (w a : ByteArray) (hw : w.data.toList = [99, 111, 109, 101]) (hz : ∀ z ∈ [w, a], z.size ≤ 1048576) : ∃ v cl, EvQ (evS [w, a]) v ∧ pure Tryz.prog cfg0 32 Tryz.f32 [textsL [w, a]] = some (v, cl) := by
  refine pure_ex (rs := [.cell 2 26, .tmp 3]) rfl rfl ?_
  have hp0 : ∀ b, cfg0.pol 32 b = (if b = 111 then 3 else if b = 112 then 3 else if b = 114 then 3 else if b = 115 then 3 else if b = 116 then 3 else if b = 135 then 3 else if b = 136 then 3 else if b = 1000000 then 2 else 0) := fun b => rfl
  have hf := c_form_come w hw
  have T : textsL [w, a] = .lst false [[.v (.string w)], [.v (.string a)]] := rfl
  have hsl := slice_rest (c := [.v (.string w)]) (xs := [[.v (.string a)]]) rfl
  have e_tick : (w.data.toList = [116, 105, 99, 107]) = False := eq_false (by rw [hw]; decide)
  have e_stop : (w.data.toList = [115, 116, 111, 112]) = False := eq_false (by rw [hw]; decide)
  have e_come : (w.data.toList = [99, 111, 109, 101]) = True := eq_true hw
  have e_close : (w.data.toList = [108, 111, 115, 101]) = False := eq_false (by rw [hw]; decide)
  have e_copy : (w.data.toList = [99, 111, 112, 121]) = False := eq_false (by rw [hw]; decide)
  have e_turn : (w.data.toList = [116, 117, 114, 110]) = False := eq_false (by rw [hw]; decide)
  have e_push : (w.data.toList = [112, 117, 115, 104]) = False := eq_false (by rw [hw]; decide)
  have e_install : (w.data.toList = [105, 110, 115, 116, 97, 108, 108]) = False := eq_false (by rw [hw]; decide)
  have e_use : (w.data.toList = [117, 115, 101]) = False := eq_false (by rw [hw]; decide)
  have e_remove : (w.data.toList = [114, 101, 109, 111, 118, 101]) = False := eq_false (by rw [hw]; decide)
  have hev : evS [w, a] = evS [w, a] := rfl
  conv at hev => rhs; simp only [evS, evK, key3, e_tick, e_stop, e_come, e_close, e_copy, e_turn, e_push, e_install, e_use, e_remove, if_true, if_false]
  rw [hev]
  clear hev
  unfold num
  have cna := c_iNumberOf a (hz a (by simp))
  unfold numC numV at cna
  generalize numOf 7 a.data.toList = na at *
  repeat' (first | ((first | refine wSeqrF ?_ | refine wIf ?_ | refine wRegF ?_ | (refine wRet ?_; (try simp only [thenQ, blockQ]); refine ends_by ?_)); intro xx hx; have hc := trivial; (repeat' (simp only [hc, Nat.reduceBEq, go_sem, Nat.reduceAdd, Nat.reduceMul, Nat.reduceSub, Nat.reduceEqDiff, Nat.reduceLT, Nat.reduceLeDiff, Int.reduceEq, Int.reduceLT, Int.reduceLE, reduceIte, aresults, aresult, hp0, b4, b2, textsL, hf, hsl] at hx; (try (rw [guardF_if] at hx; split at hx <;> rename_i hc)))); all_goals (subst hx; first | (refine ⟨_, rfl, fun ht => ?_, fun ht => ?_⟩ <;> (try simp only [bbs] at ht)) | (refine ⟨_, rfl, ?_⟩; (try simp only [tupOf])))) | refine wSkip ?_ | (refine wExit ?_; simp only [thenQ, blockQ, reduceIte, Nat.reduceEqDiff]) | refine wSeq ?_ | refine wBlock ?_)
  all_goals try (exfalso; (try simp only [bbs] at *); first | omega | exact absurd trivial (by assumption))
  refine wUnroll ?_
  by_cases ha : na < 0
  · simp only [if_pos ha] at cna
    repeat' (first | ((first | refine wSeqrF ?_ | refine wIf ?_ | refine wRegF ?_ | (refine wRet ?_; (try simp only [thenQ, blockQ]); refine ends_by ?_)); intro xx hx; have hc := trivial; (repeat' (simp only [hc, Nat.reduceBEq, go_sem, Nat.reduceAdd, Nat.reduceMul, Nat.reduceSub, Nat.reduceEqDiff, Nat.reduceLT, Nat.reduceLeDiff, Int.reduceEq, Int.reduceLT, Int.reduceLE, reduceIte, aresults, aresult, hp0, b4, b2, textsL, hf, hsl, cna] at hx; (try (rw [guardF_if] at hx; split at hx <;> rename_i hc)))); all_goals (subst hx; first | (refine ⟨_, rfl, fun ht => ?_, fun ht => ?_⟩ <;> (try simp only [bbs] at ht)) | (refine ⟨_, rfl, ?_⟩; (try simp only [tupOf])))) | refine wSkip ?_ | (refine wExit ?_; simp only [thenQ, blockQ, reduceIte, Nat.reduceEqDiff]) | refine wSeq ?_ | refine wBlock ?_)
    all_goals try (exfalso; (try simp only [bbs] at *); first | omega | exact absurd trivial (by assumption))
    all_goals first | exact ev_leaf (by first | exact dN | exact dB _ | exact dE | exact dO _) (by first | exact dN | exact dB _ | exact dE | exact dO _) (by simp [*]) (fun z hz => by simp [*] at hz) | skip
  simp only [if_neg ha] at cna
  repeat' ((fail_if_success (first | refine wAt 20 ?_)); first | ((first | refine wSeqrF ?_ | refine wIf ?_ | refine wRegF ?_ | (refine wRet ?_; (try simp only [thenQ, blockQ]); refine ends_by ?_)); intro xx hx; have hc := trivial; (repeat' (simp only [hc, Nat.reduceBEq, go_sem, Nat.reduceAdd, Nat.reduceMul, Nat.reduceSub, Nat.reduceEqDiff, Nat.reduceLT, Nat.reduceLeDiff, Int.reduceEq, Int.reduceLT, Int.reduceLE, reduceIte, aresults, aresult, hp0, b4, b2, textsL, hf, hsl, cna] at hx; (try (rw [guardF_if] at hx; split at hx <;> rename_i hc)))); all_goals (subst hx; first | (refine ⟨_, rfl, fun ht => ?_, fun ht => ?_⟩ <;> (try simp only [bbs] at ht)) | (refine ⟨_, rfl, ?_⟩; (try simp only [tupOf])))) | refine wSkip ?_ | (refine wExit ?_; simp only [thenQ, blockQ, reduceIte, Nat.reduceEqDiff]) | refine wSeq ?_ | refine wBlock ?_)
  all_goals try (exfalso; (try simp only [bbs] at *); first | omega | exact absurd trivial (by assumption))
  (first | refine wSeqrF ?_ | refine wRegF ?_); intro xx hx; have hc := trivial; (repeat' (simp only [hc, Nat.reduceBEq, go_sem, Nat.reduceAdd, Nat.reduceMul, Nat.reduceSub, Nat.reduceEqDiff, Nat.reduceLT, Nat.reduceLeDiff, Int.reduceEq, Int.reduceLT, Int.reduceLE, reduceIte, aresults, aresult, hp0, b4, b2, textsL, hf, hsl] at hx; (try (rw [guardF_if] at hx; split at hx <;> rename_i hc)))); generalize hq : aappend Tryz.prog _ _ _ _ = q at hx
  obtain ⟨xa, Ka, rfl, hacca, hga, hka, hoa⟩ := app_rows hq el97 zero2 by2 int97 (sz := 1) rfl (by omega) RAcc.nil (m := 1) rfl (afirst_one _ _ [AV.v (.int .i64 na)]) rfl (by omega) (by omega)
  clear hq
  simp only [Hp.set_g, Hp.new_g, Hp.nil, List.nil_append, List.cons_append, Nat.zero_add, Nat.reduceAdd] at hga hka hacca hoa
  have k0a : Ka.h 0 = some [AV.v (.int .i64 0), .v (.int .i64 0), .v (.int .i64 0), .v (.int .i64 0), .v (.slice none 0 0), .v (.int .i64 0), .v (.int .i64 0), .v (.slice none 0 0)] := (hka 0 (by omega) off_nil).trans rfl
  have f0a : Off 0 xa := hoa 0 (by omega) off_nil
  have g0a : (0 = Ka.g) = False := eq_false (by omega)
  have g1a : (Ka.g = 0) = False := eq_false (by omega)
  obtain ⟨p, hpp, rfl, hh⟩ := own_at hacca
  have q1 : (p = Ka.g) = False := eq_false (by omega)
  have q2 : (Ka.g = p) = False := eq_false (by omega)
  have q3 : (p = 0) = False := eq_false (fun e => f0a _ _ _ (by rw [e]))
  have q4 : (0 = p) = False := eq_false (fun e => f0a _ _ _ (by rw [← e]))
  have hc := trivial; (repeat' (simp only [hc, Nat.reduceBEq, go_sem, Nat.reduceAdd, Nat.reduceMul, Nat.reduceSub, Nat.reduceEqDiff, Nat.reduceLT, Nat.reduceLeDiff, Int.reduceEq, Int.reduceLT, Int.reduceLE, reduceIte, aresults, aresult, hp0, b4, b2, textsL, hf, hsl] at hx; (try (rw [guardF_if] at hx; split at hx <;> rename_i hc)))); all_goals (subst hx; refine ⟨_, rfl, ?_⟩)
  repeat' (first | ((first | refine wSeqrF ?_ | refine wIf ?_ | refine wRegF ?_ | (refine wRet ?_; (try simp only [thenQ, blockQ]); refine ends_by ?_)); intro xx hx; have hc := trivial; (repeat' (simp only [hc, Nat.reduceBEq, go_sem, Nat.reduceAdd, Nat.reduceMul, Nat.reduceSub, Nat.reduceEqDiff, Nat.reduceLT, Nat.reduceLeDiff, Int.reduceEq, Int.reduceLT, Int.reduceLE, reduceIte, aresults, aresult, hp0, b4, b2, textsL, hf, hsl, hh, q1, q2, q3, q4, k0a, g0a, g1a, Option.isSome_some] at hx; (try (rw [guardF_if] at hx; split at hx <;> rename_i hc)))); all_goals (subst hx; first | (refine ⟨_, rfl, fun ht => ?_, fun ht => ?_⟩ <;> (try simp only [bbs] at ht)) | (refine ⟨_, rfl, ?_⟩; (try simp only [tupOf])))) | refine wSkip ?_ | (refine wExit ?_; simp only [thenQ, blockQ, reduceIte, Nat.reduceEqDiff]) | refine wSeq ?_ | refine wBlock ?_)
  all_goals try (exfalso; (try simp only [bbs] at *); first | omega | exact absurd trivial (by assumption))
  refine wUnroll ?_
  repeat' (first | ((first | refine wSeqrF ?_ | refine wIf ?_ | refine wRegF ?_ | (refine wRet ?_; (try simp only [thenQ, blockQ]); refine ends_by ?_)); intro xx hx; have hc := trivial; (repeat' (simp only [hc, Nat.reduceBEq, go_sem, Nat.reduceAdd, Nat.reduceMul, Nat.reduceSub, Nat.reduceEqDiff, Nat.reduceLT, Nat.reduceLeDiff, Int.reduceEq, Int.reduceLT, Int.reduceLE, reduceIte, aresults, aresult, hp0, b4, b2, textsL, hf, hsl, hh, q1, q2, q3, q4, k0a, g0a, g1a, Option.isSome_some] at hx; (try (rw [guardF_if] at hx; split at hx <;> rename_i hc)))); all_goals (subst hx; first | (refine ⟨_, rfl, fun ht => ?_, fun ht => ?_⟩ <;> (try simp only [bbs] at ht)) | (refine ⟨_, rfl, ?_⟩; (try simp only [tupOf])))) | refine wSkip ?_ | (refine wExit ?_; simp only [thenQ, blockQ, reduceIte, Nat.reduceEqDiff]) | refine wSeq ?_ | refine wBlock ?_)
  all_goals try (exfalso; (try simp only [bbs] at *); first | omega | exact absurd trivial (by assumption))
  (try rw [if_neg ha]); (try rw [if_neg (by omega)]); (try rw [if_pos (by omega)]); (try simp only [Option.map_some])
  all_goals first | exact ev_leaf (by first | exact dN | exact dB _ | exact dE | exact dO _) (by first | exact dN | exact dB _ | exact dE | exact dO _) rfl (fun z hz => by first | (cases hz; rfl) | cases hz)
theorem p_parsed_close (w a : ByteArray) (hw : w.data.toList = [108, 111, 115, 101]) (hz : ∀ z ∈ [w, a], z.size ≤ 1048576) : ∃ v cl, EvQ (evS [w, a]) v ∧ pure Tryz.prog cfg0 32 Tryz.f32 [textsL [w, a]] = some (v, cl) := by
  refine pure_ex (rs := [.cell 2 26, .tmp 3]) rfl rfl ?_
  have hp0 : ∀ b, cfg0.pol 32 b = (if b = 111 then 3 else if b = 112 then 3 else if b = 114 then 3 else if b = 115 then 3 else if b = 116 then 3 else if b = 135 then 3 else if b = 136 then 3 else if b = 1000000 then 2 else 0) := fun b => rfl
  have hf := c_form_close w hw
  have T : textsL [w, a] = .lst false [[.v (.string w)], [.v (.string a)]] := rfl
  have hsl := slice_rest (c := [.v (.string w)]) (xs := [[.v (.string a)]]) rfl
  have e_tick : (w.data.toList = [116, 105, 99, 107]) = False := eq_false (by rw [hw]; decide)
  have e_stop : (w.data.toList = [115, 116, 111, 112]) = False := eq_false (by rw [hw]; decide)
  have e_come : (w.data.toList = [99, 111, 109, 101]) = False := eq_false (by rw [hw]; decide)
  have e_close : (w.data.toList = [108, 111, 115, 101]) = True := eq_true hw
  have e_copy : (w.data.toList = [99, 111, 112, 121]) = False := eq_false (by rw [hw]; decide)
  have e_turn : (w.data.toList = [116, 117, 114, 110]) = False := eq_false (by rw [hw]; decide)
  have e_push : (w.data.toList = [112, 117, 115, 104]) = False := eq_false (by rw [hw]; decide)
  have e_install : (w.data.toList = [105, 110, 115, 116, 97, 108, 108]) = False := eq_false (by rw [hw]; decide)
  have e_use : (w.data.toList = [117, 115, 101]) = False := eq_false (by rw [hw]; decide)
  have e_remove : (w.data.toList = [114, 101, 109, 111, 118, 101]) = False := eq_false (by rw [hw]; decide)
  have hev : evS [w, a] = evS [w, a] := rfl
  conv at hev => rhs; simp only [evS, evK, key3, e_tick, e_stop, e_come, e_close, e_copy, e_turn, e_push, e_install, e_use, e_remove, if_true, if_false]
  rw [hev]
  clear hev
  unfold num
  have cna := c_iNumberOf a (hz a (by simp))
  unfold numC numV at cna
  generalize numOf 7 a.data.toList = na at *
  repeat' (first | ((first | refine wSeqrF ?_ | refine wIf ?_ | refine wRegF ?_ | (refine wRet ?_; (try simp only [thenQ, blockQ]); refine ends_by ?_)); intro xx hx; have hc := trivial; (repeat' (simp only [hc, Nat.reduceBEq, go_sem, Nat.reduceAdd, Nat.reduceMul, Nat.reduceSub, Nat.reduceEqDiff, Nat.reduceLT, Nat.reduceLeDiff, Int.reduceEq, Int.reduceLT, Int.reduceLE, reduceIte, aresults, aresult, hp0, b4, b2, textsL, hf, hsl] at hx; (try (rw [guardF_if] at hx; split at hx <;> rename_i hc)))); all_goals (subst hx; first | (refine ⟨_, rfl, fun ht => ?_, fun ht => ?_⟩ <;> (try simp only [bbs] at ht)) | (refine ⟨_, rfl, ?_⟩; (try simp only [tupOf])))) | refine wSkip ?_ | (refine wExit ?_; simp only [thenQ, blockQ, reduceIte, Nat.reduceEqDiff]) | refine wSeq ?_ | refine wBlock ?_)
  all_goals try (exfalso; (try simp only [bbs] at *); first | omega | exact absurd trivial (by assumption))
  refine wUnroll ?_
  by_cases ha : na < 0
  · simp only [if_pos ha] at cna
    repeat' (first | ((first | refine wSeqrF ?_ | refine wIf ?_ | refine wRegF ?_ | (refine wRet ?_; (try simp only [thenQ, blockQ]); refine ends_by ?_)); intro xx hx; have hc := trivial; (repeat' (simp only [hc, Nat.reduceBEq, go_sem, Nat.reduceAdd, Nat.reduceMul, Nat.reduceSub, Nat.reduceEqDiff, Nat.reduceLT, Nat.reduceLeDiff, Int.reduceEq, Int.reduceLT, Int.reduceLE, reduceIte, aresults, aresult, hp0, b4, b2, textsL, hf, hsl, cna] at hx; (try (rw [guardF_if] at hx; split at hx <;> rename_i hc)))); all_goals (subst hx; first | (refine ⟨_, rfl, fun ht => ?_, fun ht => ?_⟩ <;> (try simp only [bbs] at ht)) | (refine ⟨_, rfl, ?_⟩; (try simp only [tupOf])))) | refine wSkip ?_ | (refine wExit ?_; simp only [thenQ, blockQ, reduceIte, Nat.reduceEqDiff]) | refine wSeq ?_ | refine wBlock ?_)
    all_goals try (exfalso; (try simp only [bbs] at *); first | omega | exact absurd trivial (by assumption))
    all_goals first | exact ev_leaf (by first | exact dN | exact dB _ | exact dE | exact dO _) (by first | exact dN | exact dB _ | exact dE | exact dO _) (by simp [*]) (fun z hz => by simp [*] at hz) | skip
  simp only [if_neg ha] at cna
  repeat' ((fail_if_success (first | refine wAt 20 ?_)); first | ((first | refine wSeqrF ?_ | refine wIf ?_ | refine wRegF ?_ | (refine wRet ?_; (try simp only [thenQ, blockQ]); refine ends_by ?_)); intro xx hx; have hc := trivial; (repeat' (simp only [hc, Nat.reduceBEq, go_sem, Nat.reduceAdd, Nat.reduceMul, Nat.reduceSub, Nat.reduceEqDiff, Nat.reduceLT, Nat.reduceLeDiff, Int.reduceEq, Int.reduceLT, Int.reduceLE, reduceIte, aresults, aresult, hp0, b4, b2, textsL, hf, hsl, cna] at hx; (try (rw [guardF_if] at hx; split at hx <;> rename_i hc)))); all_goals (subst hx; first | (refine ⟨_, rfl, fun ht => ?_, fun ht => ?_⟩ <;> (try simp only [bbs] at ht)) | (refine ⟨_, rfl, ?_⟩; (try simp only [tupOf])))) | refine wSkip ?_ | (refine wExit ?_; simp only [thenQ, blockQ, reduceIte, Nat.reduceEqDiff]) | refine wSeq ?_ | refine wBlock ?_)
  all_goals try (exfalso; (try simp only [bbs] at *); first | omega | exact absurd trivial (by assumption))
  (first | refine wSeqrF ?_ | refine wRegF ?_); intro xx hx; have hc := trivial; (repeat' (simp only [hc, Nat.reduceBEq, go_sem, Nat.reduceAdd, Nat.reduceMul, Nat.reduceSub, Nat.reduceEqDiff, Nat.reduceLT, Nat.reduceLeDiff, Int.reduceEq, Int.reduceLT, Int.reduceLE, reduceIte, aresults, aresult, hp0, b4, b2, textsL, hf, hsl] at hx; (try (rw [guardF_if] at hx; split at hx <;> rename_i hc)))); generalize hq : aappend Tryz.prog _ _ _ _ = q at hx
  obtain ⟨xa, Ka, rfl, hacca, hga, hka, hoa⟩ := app_rows hq el97 zero2 by2 int97 (sz := 1) rfl (by omega) RAcc.nil (m := 1) rfl (afirst_one _ _ [AV.v (.int .i64 na)]) rfl (by omega) (by omega)
  clear hq
  simp only [Hp.set_g, Hp.new_g, Hp.nil, List.nil_append, List.cons_append, Nat.zero_add, Nat.reduceAdd] at hga hka hacca hoa
  have k0a : Ka.h 0 = some [AV.v (.int .i64 0), .v (.int .i64 0), .v (.int .i64 0), .v (.int .i64 0), .v (.slice none 0 0), .v (.int .i64 0), .v (.int .i64 0), .v (.slice none 0 0)] := (hka 0 (by omega) off_nil).trans rfl
  have f0a : Off 0 xa := hoa 0 (by omega) off_nil
  have g0a : (0 = Ka.g) = False := eq_false (by omega)
  have g1a : (Ka.g = 0) = False := eq_false (by omega)
  obtain ⟨p, hpp, rfl, hh⟩ := own_at hacca
  have q1 : (p = Ka.g) = False := eq_false (by omega)
  have q2 : (Ka.g = p) = False := eq_false (by omega)
  have q3 : (p = 0) = False := eq_false (fun e => f0a _ _ _ (by rw [e]))
  have q4 : (0 = p) = False := eq_false (fun e => f0a _ _ _ (by rw [← e]))
  have hc := trivial; (repeat' (simp only [hc, Nat.reduceBEq, go_sem, Nat.reduceAdd, Nat.reduceMul, Nat.reduceSub, Nat.reduceEqDiff, Nat.reduceLT, Nat.reduceLeDiff, Int.reduceEq, Int.reduceLT, Int.reduceLE, reduceIte, aresults, aresult, hp0, b4, b2, textsL, hf, hsl] at hx; (try (rw [guardF_if] at hx; split at hx <;> rename_i hc)))); all_goals (subst hx; refine ⟨_, rfl, ?_⟩)
  repeat' (first | ((first | refine wSeqrF ?_ | refine wIf ?_ | refine wRegF ?_ | (refine wRet ?_; (try simp only [thenQ, blockQ]); refine ends_by ?_)); intro xx hx; have hc := trivial; (repeat' (simp only [hc, Nat.reduceBEq, go_sem, Nat.reduceAdd, Nat.reduceMul, Nat.reduceSub, Nat.reduceEqDiff, Nat.reduceLT, Nat.reduceLeDiff, Int.reduceEq, Int.reduceLT, Int.reduceLE, reduceIte, aresults, aresult, hp0, b4, b2, textsL, hf, hsl, hh, q1, q2, q3, q4, k0a, g0a, g1a, Option.isSome_some] at hx; (try (rw [guardF_if] at hx; split at hx <;> rename_i hc)))); all_goals (subst hx; first | (refine ⟨_, rfl, fun ht => ?_, fun ht => ?_⟩ <;> (try simp only [bbs] at ht)) | (refine ⟨_, rfl, ?_⟩; (try simp only [tupOf])))) | refine wSkip ?_ | (refine wExit ?_; simp only [thenQ, blockQ, reduceIte, Nat.reduceEqDiff]) | refine wSeq ?_ | refine wBlock ?_)
  all_goals try (exfalso; (try simp only [bbs] at *); first | omega | exact absurd trivial (by assumption))
  refine wUnroll ?_
  repeat' (first | ((first | refine wSeqrF ?_ | refine wIf ?_ | refine wRegF ?_ | (refine wRet ?_; (try simp only [thenQ, blockQ]); refine ends_by ?_)); intro xx hx; have hc := trivial; (repeat' (simp only [hc, Nat.reduceBEq, go_sem, Nat.reduceAdd, Nat.reduceMul, Nat.reduceSub, Nat.reduceEqDiff, Nat.reduceLT, Nat.reduceLeDiff, Int.reduceEq, Int.reduceLT, Int.reduceLE, reduceIte, aresults, aresult, hp0, b4, b2, textsL, hf, hsl, hh, q1, q2, q3, q4, k0a, g0a, g1a, Option.isSome_some] at hx; (try (rw [guardF_if] at hx; split at hx <;> rename_i hc)))); all_goals (subst hx; first | (refine ⟨_, rfl, fun ht => ?_, fun ht => ?_⟩ <;> (try simp only [bbs] at ht)) | (refine ⟨_, rfl, ?_⟩; (try simp only [tupOf])))) | refine wSkip ?_ | (refine wExit ?_; simp only [thenQ, blockQ, reduceIte, Nat.reduceEqDiff]) | refine wSeq ?_ | refine wBlock ?_)
  all_goals try (exfalso; (try simp only [bbs] at *); first | omega | exact absurd trivial (by assumption))
  (try rw [if_neg ha]); (try rw [if_neg (by omega)]); (try rw [if_pos (by omega)]); (try simp only [Option.map_some])
  all_goals first | exact ev_leaf (by first | exact dN | exact dB _ | exact dE | exact dO _) (by first | exact dN | exact dB _ | exact dE | exact dO _) rfl (fun z hz => by first | (cases hz; rfl) | cases hz)
theorem p_parsed_copy (w a : ByteArray) (hw : w.data.toList = [99, 111, 112, 121]) (hz : ∀ z ∈ [w, a], z.size ≤ 1048576) : ∃ v cl, EvQ (evS [w, a]) v ∧ pure Tryz.prog cfg0 32 Tryz.f32 [textsL [w, a]] = some (v, cl) := by
  refine pure_ex (rs := [.cell 2 26, .tmp 3]) rfl rfl ?_
  have hp0 : ∀ b, cfg0.pol 32 b = (if b = 111 then 3 else if b = 112 then 3 else if b = 114 then 3 else if b = 115 then 3 else if b = 116 then 3 else if b = 135 then 3 else if b = 136 then 3 else if b = 1000000 then 2 else 0) := fun b => rfl
  have hf := c_form_copy w hw
  have T : textsL [w, a] = .lst false [[.v (.string w)], [.v (.string a)]] := rfl
  have hsl := slice_rest (c := [.v (.string w)]) (xs := [[.v (.string a)]]) rfl
  have e_tick : (w.data.toList = [116, 105, 99, 107]) = False := eq_false (by rw [hw]; decide)
  have e_stop : (w.data.toList = [115, 116, 111, 112]) = False := eq_false (by rw [hw]; decide)
  have e_come : (w.data.toList = [99, 111, 109, 101]) = False := eq_false (by rw [hw]; decide)
  have e_close : (w.data.toList = [108, 111, 115, 101]) = False := eq_false (by rw [hw]; decide)
  have e_copy : (w.data.toList = [99, 111, 112, 121]) = True := eq_true hw
  have e_turn : (w.data.toList = [116, 117, 114, 110]) = False := eq_false (by rw [hw]; decide)
  have e_push : (w.data.toList = [112, 117, 115, 104]) = False := eq_false (by rw [hw]; decide)
  have e_install : (w.data.toList = [105, 110, 115, 116, 97, 108, 108]) = False := eq_false (by rw [hw]; decide)
  have e_use : (w.data.toList = [117, 115, 101]) = False := eq_false (by rw [hw]; decide)
  have e_remove : (w.data.toList = [114, 101, 109, 111, 118, 101]) = False := eq_false (by rw [hw]; decide)
  have hev : evS [w, a] = evS [w, a] := rfl
  conv at hev => rhs; simp only [evS, evK, key3, e_tick, e_stop, e_come, e_close, e_copy, e_turn, e_push, e_install, e_use, e_remove, if_true, if_false]
  rw [hev]
  clear hev
  unfold num
  have cna := c_iNumberOf a (hz a (by simp))
  unfold numC numV at cna
  generalize numOf 7 a.data.toList = na at *
  repeat' (first | ((first | refine wSeqrF ?_ | refine wIf ?_ | refine wRegF ?_ | (refine wRet ?_; (try simp only [thenQ, blockQ]); refine ends_by ?_)); intro xx hx; have hc := trivial; (repeat' (simp only [hc, Nat.reduceBEq, go_sem, Nat.reduceAdd, Nat.reduceMul, Nat.reduceSub, Nat.reduceEqDiff, Nat.reduceLT, Nat.reduceLeDiff, Int.reduceEq, Int.reduceLT, Int.reduceLE, reduceIte, aresults, aresult, hp0, b4, b2, textsL, hf, hsl] at hx; (try (rw [guardF_if] at hx; split at hx <;> rename_i hc)))); all_goals (subst hx; first | (refine ⟨_, rfl, fun ht => ?_, fun ht => ?_⟩ <;> (try simp only [bbs] at ht)) | (refine ⟨_, rfl, ?_⟩; (try simp only [tupOf])))) | refine wSkip ?_ | (refine wExit ?_; simp only [thenQ, blockQ, reduceIte, Nat.reduceEqDiff]) | refine wSeq ?_ | refine wBlock ?_)
  all_goals try (exfalso; (try simp only [bbs] at *); first | omega | exact absurd trivial (by assumption))
  refine wUnroll ?_
  by_cases ha : na < 0
  · simp only [if_pos ha] at cna
    repeat' (first | ((first | refine wSeqrF ?_ | refine wIf ?_ | refine wRegF ?_ | (refine wRet ?_; (try simp only [thenQ, blockQ]); refine ends_by ?_)); intro xx hx; have hc := trivial; (repeat' (simp only [hc, Nat.reduceBEq, go_sem, Nat.reduceAdd, Nat.reduceMul, Nat.reduceSub, Nat.reduceEqDiff, Nat.reduceLT, Nat.reduceLeDiff, Int.reduceEq, Int.reduceLT, Int.reduceLE, reduceIte, aresults, aresult, hp0, b4, b2, textsL, hf, hsl, cna] at hx; (try (rw [guardF_if] at hx; split at hx <;> rename_i hc)))); all_goals (subst hx; first | (refine ⟨_, rfl, fun ht => ?_, fun ht => ?_⟩ <;> (try simp only [bbs] at ht)) | (refine ⟨_, rfl, ?_⟩; (try simp only [tupOf])))) | refine wSkip ?_ | (refine wExit ?_; simp only [thenQ, blockQ, reduceIte, Nat.reduceEqDiff]) | refine wSeq ?_ | refine wBlock ?_)
    all_goals try (exfalso; (try simp only [bbs] at *); first | omega | exact absurd trivial (by assumption))
    all_goals first | exact ev_leaf (by first | exact dN | exact dB _ | exact dE | exact dO _) (by first | exact dN | exact dB _ | exact dE | exact dO _) (by simp [*]) (fun z hz => by simp [*] at hz) | skip
  simp only [if_neg ha] at cna
  repeat' ((fail_if_success (first | refine wAt 20 ?_)); first | ((first | refine wSeqrF ?_ | refine wIf ?_ | refine wRegF ?_ | (refine wRet ?_; (try simp only [thenQ, blockQ]); refine ends_by ?_)); intro xx hx; have hc := trivial; (repeat' (simp only [hc, Nat.reduceBEq, go_sem, Nat.reduceAdd, Nat.reduceMul, Nat.reduceSub, Nat.reduceEqDiff, Nat.reduceLT, Nat.reduceLeDiff, Int.reduceEq, Int.reduceLT, Int.reduceLE, reduceIte, aresults, aresult, hp0, b4, b2, textsL, hf, hsl, cna] at hx; (try (rw [guardF_if] at hx; split at hx <;> rename_i hc)))); all_goals (subst hx; first | (refine ⟨_, rfl, fun ht => ?_, fun ht => ?_⟩ <;> (try simp only [bbs] at ht)) | (refine ⟨_, rfl, ?_⟩; (try simp only [tupOf])))) | refine wSkip ?_ | (refine wExit ?_; simp only [thenQ, blockQ, reduceIte, Nat.reduceEqDiff]) | refine wSeq ?_ | refine wBlock ?_)
  all_goals try (exfalso; (try simp only [bbs] at *); first | omega | exact absurd trivial (by assumption))
  (first | refine wSeqrF ?_ | refine wRegF ?_); intro xx hx; have hc := trivial; (repeat' (simp only [hc, Nat.reduceBEq, go_sem, Nat.reduceAdd, Nat.reduceMul, Nat.reduceSub, Nat.reduceEqDiff, Nat.reduceLT, Nat.reduceLeDiff, Int.reduceEq, Int.reduceLT, Int.reduceLE, reduceIte, aresults, aresult, hp0, b4, b2, textsL, hf, hsl] at hx; (try (rw [guardF_if] at hx; split at hx <;> rename_i hc)))); generalize hq : aappend Tryz.prog _ _ _ _ = q at hx
  obtain ⟨xa, Ka, rfl, hacca, hga, hka, hoa⟩ := app_rows hq el97 zero2 by2 int97 (sz := 1) rfl (by omega) RAcc.nil (m := 1) rfl (afirst_one _ _ [AV.v (.int .i64 na)]) rfl (by omega) (by omega)
  clear hq
  simp only [Hp.set_g, Hp.new_g, Hp.nil, List.nil_append, List.cons_append, Nat.zero_add, Nat.reduceAdd] at hga hka hacca hoa
  have k0a : Ka.h 0 = some [AV.v (.int .i64 0), .v (.int .i64 0), .v (.int .i64 0), .v (.int .i64 0), .v (.slice none 0 0), .v (.int .i64 0), .v (.int .i64 0), .v (.slice none 0 0)] := (hka 0 (by omega) off_nil).trans rfl
  have f0a : Off 0 xa := hoa 0 (by omega) off_nil
  have g0a : (0 = Ka.g) = False := eq_false (by omega)
  have g1a : (Ka.g = 0) = False := eq_false (by omega)
  obtain ⟨p, hpp, rfl, hh⟩ := own_at hacca
  have q1 : (p = Ka.g) = False := eq_false (by omega)
  have q2 : (Ka.g = p) = False := eq_false (by omega)
  have q3 : (p = 0) = False := eq_false (fun e => f0a _ _ _ (by rw [e]))
  have q4 : (0 = p) = False := eq_false (fun e => f0a _ _ _ (by rw [← e]))
  have hc := trivial; (repeat' (simp only [hc, Nat.reduceBEq, go_sem, Nat.reduceAdd, Nat.reduceMul, Nat.reduceSub, Nat.reduceEqDiff, Nat.reduceLT, Nat.reduceLeDiff, Int.reduceEq, Int.reduceLT, Int.reduceLE, reduceIte, aresults, aresult, hp0, b4, b2, textsL, hf, hsl] at hx; (try (rw [guardF_if] at hx; split at hx <;> rename_i hc)))); all_goals (subst hx; refine ⟨_, rfl, ?_⟩)
  repeat' (first | ((first | refine wSeqrF ?_ | refine wIf ?_ | refine wRegF ?_ | (refine wRet ?_; (try simp only [thenQ, blockQ]); refine ends_by ?_)); intro xx hx; have hc := trivial; (repeat' (simp only [hc, Nat.reduceBEq, go_sem, Nat.reduceAdd, Nat.reduceMul, Nat.reduceSub, Nat.reduceEqDiff, Nat.reduceLT, Nat.reduceLeDiff, Int.reduceEq, Int.reduceLT, Int.reduceLE, reduceIte, aresults, aresult, hp0, b4, b2, textsL, hf, hsl, hh, q1, q2, q3, q4, k0a, g0a, g1a, Option.isSome_some] at hx; (try (rw [guardF_if] at hx; split at hx <;> rename_i hc)))); all_goals (subst hx; first | (refine ⟨_, rfl, fun ht => ?_, fun ht => ?_⟩ <;> (try simp only [bbs] at ht)) | (refine ⟨_, rfl, ?_⟩; (try simp only [tupOf])))) | refine wSkip ?_ | (refine wExit ?_; simp only [thenQ, blockQ, reduceIte, Nat.reduceEqDiff]) | refine wSeq ?_ | refine wBlock ?_)
  all_goals try (exfalso; (try simp only [bbs] at *); first | omega | exact absurd trivial (by assumption))
  refine wUnroll ?_
  repeat' (first | ((first | refine wSeqrF ?_ | refine wIf ?_ | refine wRegF ?_ | (refine wRet ?_; (try simp only [thenQ, blockQ]); refine ends_by ?_)); intro xx hx; have hc := trivial; (repeat' (simp only [hc, Nat.reduceBEq, go_sem, Nat.reduceAdd, Nat.reduceMul, Nat.reduceSub, Nat.reduceEqDiff, Nat.reduceLT, Nat.reduceLeDiff, Int.reduceEq, Int.reduceLT, Int.reduceLE, reduceIte, aresults, aresult, hp0, b4, b2, textsL, hf, hsl, hh, q1, q2, q3, q4, k0a, g0a, g1a, Option.isSome_some] at hx; (try (rw [guardF_if] at hx; split at hx <;> rename_i hc)))); all_goals (subst hx; first | (refine ⟨_, rfl, fun ht => ?_, fun ht => ?_⟩ <;> (try simp only [bbs] at ht)) | (refine ⟨_, rfl, ?_⟩; (try simp only [tupOf])))) | refine wSkip ?_ | (refine wExit ?_; simp only [thenQ, blockQ, reduceIte, Nat.reduceEqDiff]) | refine wSeq ?_ | refine wBlock ?_)
  all_goals try (exfalso; (try simp only [bbs] at *); first | omega | exact absurd trivial (by assumption))
  (try rw [if_neg ha]); (try rw [if_neg (by omega)]); (try rw [if_pos (by omega)]); (try simp only [Option.map_some])
  all_goals first | exact ev_leaf (by first | exact dN | exact dB _ | exact dE | exact dO _) (by first | exact dN | exact dB _ | exact dE | exact dO _) rfl (fun z hz => by first | (cases hz; rfl) | cases hz)
theorem p_parsed_push1 (w a : ByteArray) (hw : w.data.toList = [112, 117, 115, 104]) (hz : ∀ z ∈ [w, a], z.size ≤ 1048576) : ∃ v cl, EvQ (evS [w, a]) v ∧ pure Tryz.prog cfg0 32 Tryz.f32 [textsL [w, a]] = some (v, cl) := by
  refine pure_ex (rs := [.cell 2 26, .tmp 3]) rfl rfl ?_
  have hp0 : ∀ b, cfg0.pol 32 b = (if b = 111 then 3 else if b = 112 then 3 else if b = 114 then 3 else if b = 115 then 3 else if b = 116 then 3 else if b = 135 then 3 else if b = 136 then 3 else if b = 1000000 then 2 else 0) := fun b => rfl
  have hf := c_form_push w hw
  have T : textsL [w, a] = .lst false [[.v (.string w)], [.v (.string a)]] := rfl
  have hsl := slice_rest (c := [.v (.string w)]) (xs := [[.v (.string a)]]) rfl
  have e_tick : (w.data.toList = [116, 105, 99, 107]) = False := eq_false (by rw [hw]; decide)
  have e_stop : (w.data.toList = [115, 116, 111, 112]) = False := eq_false (by rw [hw]; decide)
  have e_come : (w.data.toList = [99, 111, 109, 101]) = False := eq_false (by rw [hw]; decide)
  have e_close : (w.data.toList = [108, 111, 115, 101]) = False := eq_false (by rw [hw]; decide)
  have e_copy : (w.data.toList = [99, 111, 112, 121]) = False := eq_false (by rw [hw]; decide)
  have e_turn : (w.data.toList = [116, 117, 114, 110]) = False := eq_false (by rw [hw]; decide)
  have e_push : (w.data.toList = [112, 117, 115, 104]) = True := eq_true hw
  have e_install : (w.data.toList = [105, 110, 115, 116, 97, 108, 108]) = False := eq_false (by rw [hw]; decide)
  have e_use : (w.data.toList = [117, 115, 101]) = False := eq_false (by rw [hw]; decide)
  have e_remove : (w.data.toList = [114, 101, 109, 111, 118, 101]) = False := eq_false (by rw [hw]; decide)
  have hev : evS [w, a] = evS [w, a] := rfl
  conv at hev => rhs; simp only [evS, evK, key3, e_tick, e_stop, e_come, e_close, e_copy, e_turn, e_push, e_install, e_use, e_remove, if_true, if_false]
  rw [hev]
  clear hev
  unfold num
  have cna := c_iNumberOf a (hz a (by simp))
  unfold numC numV at cna
  generalize numOf 7 a.data.toList = na at *
  repeat' (first | ((first | refine wSeqrF ?_ | refine wIf ?_ | refine wRegF ?_ | (refine wRet ?_; (try simp only [thenQ, blockQ]); refine ends_by ?_)); intro xx hx; have hc := trivial; (repeat' (simp only [hc, Nat.reduceBEq, go_sem, Nat.reduceAdd, Nat.reduceMul, Nat.reduceSub, Nat.reduceEqDiff, Nat.reduceLT, Nat.reduceLeDiff, Int.reduceEq, Int.reduceLT, Int.reduceLE, reduceIte, aresults, aresult, hp0, b4, b2, textsL, hf, hsl] at hx; (try (rw [guardF_if] at hx; split at hx <;> rename_i hc)))); all_goals (subst hx; first | (refine ⟨_, rfl, fun ht => ?_, fun ht => ?_⟩ <;> (try simp only [bbs] at ht)) | (refine ⟨_, rfl, ?_⟩; (try simp only [tupOf])))) | refine wSkip ?_ | (refine wExit ?_; simp only [thenQ, blockQ, reduceIte, Nat.reduceEqDiff]) | refine wSeq ?_ | refine wBlock ?_)
  all_goals try (exfalso; (try simp only [bbs] at *); first | omega | exact absurd trivial (by assumption))
  refine wUnroll ?_
  by_cases ha : na < 0
  · simp only [if_pos ha] at cna
    repeat' (first | ((first | refine wSeqrF ?_ | refine wIf ?_ | refine wRegF ?_ | (refine wRet ?_; (try simp only [thenQ, blockQ]); refine ends_by ?_)); intro xx hx; have hc := trivial; (repeat' (simp only [hc, Nat.reduceBEq, go_sem, Nat.reduceAdd, Nat.reduceMul, Nat.reduceSub, Nat.reduceEqDiff, Nat.reduceLT, Nat.reduceLeDiff, Int.reduceEq, Int.reduceLT, Int.reduceLE, reduceIte, aresults, aresult, hp0, b4, b2, textsL, hf, hsl, cna] at hx; (try (rw [guardF_if] at hx; split at hx <;> rename_i hc)))); all_goals (subst hx; first | (refine ⟨_, rfl, fun ht => ?_, fun ht => ?_⟩ <;> (try simp only [bbs] at ht)) | (refine ⟨_, rfl, ?_⟩; (try simp only [tupOf])))) | refine wSkip ?_ | (refine wExit ?_; simp only [thenQ, blockQ, reduceIte, Nat.reduceEqDiff]) | refine wSeq ?_ | refine wBlock ?_)
    all_goals try (exfalso; (try simp only [bbs] at *); first | omega | exact absurd trivial (by assumption))
    all_goals first | exact ev_leaf (by first | exact dN | exact dB _ | exact dE | exact dO _) (by first | exact dN | exact dB _ | exact dE | exact dO _) (by simp [*]) (fun z hz => by simp [*] at hz) | skip
  simp only [if_neg ha] at cna
  repeat' ((fail_if_success (first | refine wAt 20 ?_)); first | ((first | refine wSeqrF ?_ | refine wIf ?_ | refine wRegF ?_ | (refine wRet ?_; (try simp only [thenQ, blockQ]); refine ends_by ?_)); intro xx hx; have hc := trivial; (repeat' (simp only [hc, Nat.reduceBEq, go_sem, Nat.reduceAdd, Nat.reduceMul, Nat.reduceSub, Nat.reduceEqDiff, Nat.reduceLT, Nat.reduceLeDiff, Int.reduceEq, Int.reduceLT, Int.reduceLE, reduceIte, aresults, aresult, hp0, b4, b2, textsL, hf, hsl, cna] at hx; (try (rw [guardF_if] at hx; split at hx <;> rename_i hc)))); all_goals (subst hx; first | (refine ⟨_, rfl, fun ht => ?_, fun ht => ?_⟩ <;> (try simp only [bbs] at ht)) | (refine ⟨_, rfl, ?_⟩; (try simp only [tupOf])))) | refine wSkip ?_ | (refine wExit ?_; simp only [thenQ, blockQ, reduceIte, Nat.reduceEqDiff]) | refine wSeq ?_ | refine wBlock ?_)
  all_goals try (exfalso; (try simp only [bbs] at *); first | omega | exact absurd trivial (by assumption))
  (first | refine wSeqrF ?_ | refine wRegF ?_); intro xx hx; have hc := trivial; (repeat' (simp only [hc, Nat.reduceBEq, go_sem, Nat.reduceAdd, Nat.reduceMul, Nat.reduceSub, Nat.reduceEqDiff, Nat.reduceLT, Nat.reduceLeDiff, Int.reduceEq, Int.reduceLT, Int.reduceLE, reduceIte, aresults, aresult, hp0, b4, b2, textsL, hf, hsl] at hx; (try (rw [guardF_if] at hx; split at hx <;> rename_i hc)))); generalize hq : aappend Tryz.prog _ _ _ _ = q at hx
  obtain ⟨xa, Ka, rfl, hacca, hga, hka, hoa⟩ := app_rows hq el97 zero2 by2 int97 (sz := 1) rfl (by omega) RAcc.nil (m := 1) rfl (afirst_one _ _ [AV.v (.int .i64 na)]) rfl (by omega) (by omega)
  clear hq
  simp only [Hp.set_g, Hp.new_g, Hp.nil, List.nil_append, List.cons_append, Nat.zero_add, Nat.reduceAdd] at hga hka hacca hoa
  have k0a : Ka.h 0 = some [AV.v (.int .i64 0), .v (.int .i64 0), .v (.int .i64 0), .v (.int .i64 0), .v (.slice none 0 0), .v (.int .i64 0), .v (.int .i64 0), .v (.slice none 0 0)] := (hka 0 (by omega) off_nil).trans rfl
  have f0a : Off 0 xa := hoa 0 (by omega) off_nil
  have g0a : (0 = Ka.g) = False := eq_false (by omega)
  have g1a : (Ka.g = 0) = False := eq_false (by omega)
  obtain ⟨p, hpp, rfl, hh⟩ := own_at hacca
  have q1 : (p = Ka.g) = False := eq_false (by omega)
  have q2 : (Ka.g = p) = False := eq_false (by omega)
  have q3 : (p = 0) = False := eq_false (fun e => f0a _ _ _ (by rw [e]))
  have q4 : (0 = p) = False := eq_false (fun e => f0a _ _ _ (by rw [← e]))
  have hc := trivial; (repeat' (simp only [hc, Nat.reduceBEq, go_sem, Nat.reduceAdd, Nat.reduceMul, Nat.reduceSub, Nat.reduceEqDiff, Nat.reduceLT, Nat.reduceLeDiff, Int.reduceEq, Int.reduceLT, Int.reduceLE, reduceIte, aresults, aresult, hp0, b4, b2, textsL, hf, hsl] at hx; (try (rw [guardF_if] at hx; split at hx <;> rename_i hc)))); all_goals (subst hx; refine ⟨_, rfl, ?_⟩)
  repeat' (first | ((first | refine wSeqrF ?_ | refine wIf ?_ | refine wRegF ?_ | (refine wRet ?_; (try simp only [thenQ, blockQ]); refine ends_by ?_)); intro xx hx; have hc := trivial; (repeat' (simp only [hc, Nat.reduceBEq, go_sem, Nat.reduceAdd, Nat.reduceMul, Nat.reduceSub, Nat.reduceEqDiff, Nat.reduceLT, Nat.reduceLeDiff, Int.reduceEq, Int.reduceLT, Int.reduceLE, reduceIte, aresults, aresult, hp0, b4, b2, textsL, hf, hsl, hh, q1, q2, q3, q4, k0a, g0a, g1a, Option.isSome_some] at hx; (try (rw [guardF_if] at hx; split at hx <;> rename_i hc)))); all_goals (subst hx; first | (refine ⟨_, rfl, fun ht => ?_, fun ht => ?_⟩ <;> (try simp only [bbs] at ht)) | (refine ⟨_, rfl, ?_⟩; (try simp only [tupOf])))) | refine wSkip ?_ | (refine wExit ?_; simp only [thenQ, blockQ, reduceIte, Nat.reduceEqDiff]) | refine wSeq ?_ | refine wBlock ?_)
  all_goals try (exfalso; (try simp only [bbs] at *); first | omega | exact absurd trivial (by assumption))
  refine wUnroll ?_
  repeat' (first | ((first | refine wSeqrF ?_ | refine wIf ?_ | refine wRegF ?_ | (refine wRet ?_; (try simp only [thenQ, blockQ]); refine ends_by ?_)); intro xx hx; have hc := trivial; (repeat' (simp only [hc, Nat.reduceBEq, go_sem, Nat.reduceAdd, Nat.reduceMul, Nat.reduceSub, Nat.reduceEqDiff, Nat.reduceLT, Nat.reduceLeDiff, Int.reduceEq, Int.reduceLT, Int.reduceLE, reduceIte, aresults, aresult, hp0, b4, b2, textsL, hf, hsl, hh, q1, q2, q3, q4, k0a, g0a, g1a, Option.isSome_some] at hx; (try (rw [guardF_if] at hx; split at hx <;> rename_i hc)))); all_goals (subst hx; first | (refine ⟨_, rfl, fun ht => ?_, fun ht => ?_⟩ <;> (try simp only [bbs] at ht)) | (refine ⟨_, rfl, ?_⟩; (try simp only [tupOf])))) | refine wSkip ?_ | (refine wExit ?_; simp only [thenQ, blockQ, reduceIte, Nat.reduceEqDiff]) | refine wSeq ?_ | refine wBlock ?_)
  all_goals try (exfalso; (try simp only [bbs] at *); first | omega | exact absurd trivial (by assumption))
  (try rw [if_neg ha]); (try rw [if_neg (by omega)]); (try rw [if_pos (by omega)]); (try simp only [Option.map_some])
  all_goals first | exact ev_leaf (by first | exact dN | exact dB _ | exact dE | exact dO _) (by first | exact dN | exact dB _ | exact dE | exact dO _) rfl (fun z hz => by first | (cases hz; rfl) | cases hz)
theorem p_parsed_push2 (w a b : ByteArray) (hw : w.data.toList = [112, 117, 115, 104]) (hz : ∀ z ∈ [w, a, b], z.size ≤ 1048576) : ∃ v cl, EvQ (evS [w, a, b]) v ∧ pure Tryz.prog cfg0 32 Tryz.f32 [textsL [w, a, b]] = some (v, cl) := by
  refine pure_ex (rs := [.cell 2 26, .tmp 3]) rfl rfl ?_
  have hp0 : ∀ b, cfg0.pol 32 b = (if b = 111 then 3 else if b = 112 then 3 else if b = 114 then 3 else if b = 115 then 3 else if b = 116 then 3 else if b = 135 then 3 else if b = 136 then 3 else if b = 1000000 then 2 else 0) := fun b => rfl
  have hf := c_form_push w hw
  have T : textsL [w, a, b] = .lst false [[.v (.string w)], [.v (.string a)], [.v (.string b)]] := rfl
  have hsl := slice_rest (c := [.v (.string w)]) (xs := [[.v (.string a)], [.v (.string b)]]) rfl
  have e_tick : (w.data.toList = [116, 105, 99, 107]) = False := eq_false (by rw [hw]; decide)
  have e_stop : (w.data.toList = [115, 116, 111, 112]) = False := eq_false (by rw [hw]; decide)
  have e_come : (w.data.toList = [99, 111, 109, 101]) = False := eq_false (by rw [hw]; decide)
  have e_close : (w.data.toList = [108, 111, 115, 101]) = False := eq_false (by rw [hw]; decide)
  have e_copy : (w.data.toList = [99, 111, 112, 121]) = False := eq_false (by rw [hw]; decide)
  have e_turn : (w.data.toList = [116, 117, 114, 110]) = False := eq_false (by rw [hw]; decide)
  have e_push : (w.data.toList = [112, 117, 115, 104]) = True := eq_true hw
  have e_install : (w.data.toList = [105, 110, 115, 116, 97, 108, 108]) = False := eq_false (by rw [hw]; decide)
  have e_use : (w.data.toList = [117, 115, 101]) = False := eq_false (by rw [hw]; decide)
  have e_remove : (w.data.toList = [114, 101, 109, 111, 118, 101]) = False := eq_false (by rw [hw]; decide)
  have hev : evS [w, a, b] = evS [w, a, b] := rfl
  conv at hev => rhs; simp only [evS, evK, key3, e_tick, e_stop, e_come, e_close, e_copy, e_turn, e_push, e_install, e_use, e_remove, if_true, if_false]
  rw [hev]
  clear hev
  unfold num
  have cna := c_iNumberOf a (hz a (by simp))
  unfold numC numV at cna
  generalize numOf 7 a.data.toList = na at *
  have cub := c_iunhex b (hz b (by simp))
  unfold unRes at cub
  have rub := fun d => rd_of_un (w := b.data.toList) (l := d)
  have rvb := fun d => rd_of_un0 (w := b.data.toList) (l := d)
  have rnb := rd_of_no (w := b.data.toList)
  generalize hexUn b.data.toList = oub at *
  generalize hexRd b.data.toList = ohb at *
  repeat' (first | ((first | refine wSeqrF ?_ | refine wIf ?_ | refine wRegF ?_ | (refine wRet ?_; (try simp only [thenQ, blockQ]); refine ends_by ?_)); intro xx hx; have hc := trivial; (repeat' (simp only [hc, Nat.reduceBEq, go_sem, Nat.reduceAdd, Nat.reduceMul, Nat.reduceSub, Nat.reduceEqDiff, Nat.reduceLT, Nat.reduceLeDiff, Int.reduceEq, Int.reduceLT, Int.reduceLE, reduceIte, aresults, aresult, hp0, b4, b2, textsL, hf, hsl] at hx; (try (rw [guardF_if] at hx; split at hx <;> rename_i hc)))); all_goals (subst hx; first | (refine ⟨_, rfl, fun ht => ?_, fun ht => ?_⟩ <;> (try simp only [bbs] at ht)) | (refine ⟨_, rfl, ?_⟩; (try simp only [tupOf])))) | refine wSkip ?_ | (refine wExit ?_; simp only [thenQ, blockQ, reduceIte, Nat.reduceEqDiff]) | refine wSeq ?_ | refine wBlock ?_)
  all_goals try (exfalso; (try simp only [bbs] at *); first | omega | exact absurd trivial (by assumption))
  refine wUnroll ?_
  by_cases ha : na < 0
  · simp only [if_pos ha] at cna
    repeat' (first | ((first | refine wSeqrF ?_ | refine wIf ?_ | refine wRegF ?_ | (refine wRet ?_; (try simp only [thenQ, blockQ]); refine ends_by ?_)); intro xx hx; have hc := trivial; (repeat' (simp only [hc, Nat.reduceBEq, go_sem, Nat.reduceAdd, Nat.reduceMul, Nat.reduceSub, Nat.reduceEqDiff, Nat.reduceLT, Nat.reduceLeDiff, Int.reduceEq, Int.reduceLT, Int.reduceLE, reduceIte, aresults, aresult, hp0, b4, b2, textsL, hf, hsl, cna] at hx; (try (rw [guardF_if] at hx; split at hx <;> rename_i hc)))); all_goals (subst hx; first | (refine ⟨_, rfl, fun ht => ?_, fun ht => ?_⟩ <;> (try simp only [bbs] at ht)) | (refine ⟨_, rfl, ?_⟩; (try simp only [tupOf])))) | refine wSkip ?_ | (refine wExit ?_; simp only [thenQ, blockQ, reduceIte, Nat.reduceEqDiff]) | refine wSeq ?_ | refine wBlock ?_)
    all_goals try (exfalso; (try simp only [bbs] at *); first | omega | exact absurd trivial (by assumption))
    all_goals first | exact ev_leaf (by first | exact dN | exact dB _ | exact dE | exact dO _) (by first | exact dN | exact dB _ | exact dE | exact dO _) (by simp [*]) (fun z hz => by simp [*] at hz) | skip
  simp only [if_neg ha] at cna
  repeat' ((fail_if_success (first | refine wAt 20 ?_)); first | ((first | refine wSeqrF ?_ | refine wIf ?_ | refine wRegF ?_ | (refine wRet ?_; (try simp only [thenQ, blockQ]); refine ends_by ?_)); intro xx hx; have hc := trivial; (repeat' (simp only [hc, Nat.reduceBEq, go_sem, Nat.reduceAdd, Nat.reduceMul, Nat.reduceSub, Nat.reduceEqDiff, Nat.reduceLT, Nat.reduceLeDiff, Int.reduceEq, Int.reduceLT, Int.reduceLE, reduceIte, aresults, aresult, hp0, b4, b2, textsL, hf, hsl, cna] at hx; (try (rw [guardF_if] at hx; split at hx <;> rename_i hc)))); all_goals (subst hx; first | (refine ⟨_, rfl, fun ht => ?_, fun ht => ?_⟩ <;> (try simp only [bbs] at ht)) | (refine ⟨_, rfl, ?_⟩; (try simp only [tupOf])))) | refine wSkip ?_ | (refine wExit ?_; simp only [thenQ, blockQ, reduceIte, Nat.reduceEqDiff]) | refine wSeq ?_ | refine wBlock ?_)
  all_goals try (exfalso; (try simp only [bbs] at *); first | omega | exact absurd trivial (by assumption))
  (first | refine wSeqrF ?_ | refine wRegF ?_); intro xx hx; have hc := trivial; (repeat' (simp only [hc, Nat.reduceBEq, go_sem, Nat.reduceAdd, Nat.reduceMul, Nat.reduceSub, Nat.reduceEqDiff, Nat.reduceLT, Nat.reduceLeDiff, Int.reduceEq, Int.reduceLT, Int.reduceLE, reduceIte, aresults, aresult, hp0, b4, b2, textsL, hf, hsl] at hx; (try (rw [guardF_if] at hx; split at hx <;> rename_i hc)))); generalize hq : aappend Tryz.prog _ _ _ _ = q at hx
  obtain ⟨xa, Ka, rfl, hacca, hga, hka, hoa⟩ := app_rows hq el97 zero2 by2 int97 (sz := 1) rfl (by omega) RAcc.nil (m := 1) rfl (afirst_one _ _ [AV.v (.int .i64 na)]) rfl (by omega) (by omega)
  clear hq
  simp only [Hp.set_g, Hp.new_g, Hp.nil, List.nil_append, List.cons_append, Nat.zero_add, Nat.reduceAdd] at hga hka hacca hoa
  have k0a : Ka.h 0 = some [AV.v (.int .i64 0), .v (.int .i64 0), .v (.int .i64 0), .v (.int .i64 0), .v (.slice none 0 0), .v (.int .i64 0), .v (.int .i64 0), .v (.slice none 0 0)] := (hka 0 (by omega) off_nil).trans rfl
  have f0a : Off 0 xa := hoa 0 (by omega) off_nil
  have g0a : (0 = Ka.g) = False := eq_false (by omega)
  have g1a : (Ka.g = 0) = False := eq_false (by omega)
  obtain ⟨p, hpp, rfl, hh⟩ := own_at hacca
  have q1 : (p = Ka.g) = False := eq_false (by omega)
  have q2 : (Ka.g = p) = False := eq_false (by omega)
  have q3 : (p = 0) = False := eq_false (fun e => f0a _ _ _ (by rw [e]))
  have q4 : (0 = p) = False := eq_false (fun e => f0a _ _ _ (by rw [← e]))
  have hc := trivial; (repeat' (simp only [hc, Nat.reduceBEq, go_sem, Nat.reduceAdd, Nat.reduceMul, Nat.reduceSub, Nat.reduceEqDiff, Nat.reduceLT, Nat.reduceLeDiff, Int.reduceEq, Int.reduceLT, Int.reduceLE, reduceIte, aresults, aresult, hp0, b4, b2, textsL, hf, hsl] at hx; (try (rw [guardF_if] at hx; split at hx <;> rename_i hc)))); all_goals (subst hx; refine ⟨_, rfl, ?_⟩)
  repeat' (first | ((first | refine wSeqrF ?_ | refine wIf ?_ | refine wRegF ?_ | (refine wRet ?_; (try simp only [thenQ, blockQ]); refine ends_by ?_)); intro xx hx; have hc := trivial; (repeat' (simp only [hc, Nat.reduceBEq, go_sem, Nat.reduceAdd, Nat.reduceMul, Nat.reduceSub, Nat.reduceEqDiff, Nat.reduceLT, Nat.reduceLeDiff, Int.reduceEq, Int.reduceLT, Int.reduceLE, reduceIte, aresults, aresult, hp0, b4, b2, textsL, hf, hsl, hh, q1, q2, q3, q4, k0a, g0a, g1a, Option.isSome_some] at hx; (try (rw [guardF_if] at hx; split at hx <;> rename_i hc)))); all_goals (subst hx; first | (refine ⟨_, rfl, fun ht => ?_, fun ht => ?_⟩ <;> (try simp only [bbs] at ht)) | (refine ⟨_, rfl, ?_⟩; (try simp only [tupOf])))) | refine wSkip ?_ | (refine wExit ?_; simp only [thenQ, blockQ, reduceIte, Nat.reduceEqDiff]) | refine wSeq ?_ | refine wBlock ?_)
  refine wUnroll ?_
  rcases oub with _ | ⟨d, _ | _⟩
  · have r1 := rnb rfl
    subst r1
    repeat' (first | ((first | refine wSeqrF ?_ | refine wIf ?_ | refine wRegF ?_ | (refine wRet ?_; (try simp only [thenQ, blockQ]); refine ends_by ?_)); intro xx hx; have hc := trivial; (repeat' (simp only [hc, Nat.reduceBEq, go_sem, Nat.reduceAdd, Nat.reduceMul, Nat.reduceSub, Nat.reduceEqDiff, Nat.reduceLT, Nat.reduceLeDiff, Int.reduceEq, Int.reduceLT, Int.reduceLE, reduceIte, aresults, aresult, hp0, b4, b2, textsL, hf, hsl, cub, hh, q1, q2, q3, q4, k0a, g0a, g1a, Option.isSome_some] at hx; (try (rw [guardF_if] at hx; split at hx <;> rename_i hc)))); all_goals (subst hx; first | (refine ⟨_, rfl, fun ht => ?_, fun ht => ?_⟩ <;> (try simp only [bbs] at ht)) | (refine ⟨_, rfl, ?_⟩; (try simp only [tupOf])))) | refine wSkip ?_ | (refine wExit ?_; simp only [thenQ, blockQ, reduceIte, Nat.reduceEqDiff]) | refine wSeq ?_ | refine wBlock ?_)
    all_goals try (exfalso; (try simp only [bbs] at *); first | omega | exact absurd trivial (by assumption))
    all_goals first | exact ev_leaf (by first | exact dN | exact dB _ | exact dE | exact dO _) (by first | exact dN | exact dB _ | exact dE | exact dO _) (by simp [*]) (fun z hz => by simp [*] at hz) | skip
  · have r1 := rvb d rfl
    subst r1
    repeat' (first | ((first | refine wSeqrF ?_ | refine wIf ?_ | refine wRegF ?_ | (refine wRet ?_; (try simp only [thenQ, blockQ]); refine ends_by ?_)); intro xx hx; have hc := trivial; (repeat' (simp only [hc, Nat.reduceBEq, go_sem, Nat.reduceAdd, Nat.reduceMul, Nat.reduceSub, Nat.reduceEqDiff, Nat.reduceLT, Nat.reduceLeDiff, Int.reduceEq, Int.reduceLT, Int.reduceLE, reduceIte, aresults, aresult, hp0, b4, b2, textsL, hf, hsl, cub, hh, q1, q2, q3, q4, k0a, g0a, g1a, Option.isSome_some] at hx; (try (rw [guardF_if] at hx; split at hx <;> rename_i hc)))); all_goals (subst hx; first | (refine ⟨_, rfl, fun ht => ?_, fun ht => ?_⟩ <;> (try simp only [bbs] at ht)) | (refine ⟨_, rfl, ?_⟩; (try simp only [tupOf])))) | refine wSkip ?_ | (refine wExit ?_; simp only [thenQ, blockQ, reduceIte, Nat.reduceEqDiff]) | refine wSeq ?_ | refine wBlock ?_)
    all_goals try (exfalso; (try simp only [bbs] at *); first | omega | exact absurd trivial (by assumption))
    all_goals first | exact ev_leaf (by first | exact dN | exact dB _ | exact dE | exact dO _) (by first | exact dN | exact dB _ | exact dE | exact dO _) (by simp [*]) (fun z hz => by simp [*] at hz) | skip
  have r1 := rub d rfl
  subst r1
  repeat' (first | ((first | refine wSeqrF ?_ | refine wIf ?_ | refine wRegF ?_ | (refine wRet ?_; (try simp only [thenQ, blockQ]); refine ends_by ?_)); intro xx hx; have hc := trivial; (repeat' (simp only [hc, Nat.reduceBEq, go_sem, Nat.reduceAdd, Nat.reduceMul, Nat.reduceSub, Nat.reduceEqDiff, Nat.reduceLT, Nat.reduceLeDiff, Int.reduceEq, Int.reduceLT, Int.reduceLE, reduceIte, aresults, aresult, hp0, b4, b2, textsL, hf, hsl, hh, q1, q2, q3, q4, k0a, g0a, g1a, Option.isSome_some, cub] at hx; (try (rw [guardF_if] at hx; split at hx <;> rename_i hc)))); all_goals (subst hx; first | (refine ⟨_, rfl, fun ht => ?_, fun ht => ?_⟩ <;> (try simp only [bbs] at ht)) | (refine ⟨_, rfl, ?_⟩; (try simp only [tupOf])))) | refine wSkip ?_ | (refine wExit ?_; simp only [thenQ, blockQ, reduceIte, Nat.reduceEqDiff]) | refine wSeq ?_ | refine wBlock ?_)
  all_goals try (exfalso; (try simp only [bbs] at *); first | omega | exact absurd trivial (by assumption))
  refine wUnroll ?_
  repeat' (first | ((first | refine wSeqrF ?_ | refine wIf ?_ | refine wRegF ?_ | (refine wRet ?_; (try simp only [thenQ, blockQ]); refine ends_by ?_)); intro xx hx; have hc := trivial; (repeat' (simp only [hc, Nat.reduceBEq, go_sem, Nat.reduceAdd, Nat.reduceMul, Nat.reduceSub, Nat.reduceEqDiff, Nat.reduceLT, Nat.reduceLeDiff, Int.reduceEq, Int.reduceLT, Int.reduceLE, reduceIte, aresults, aresult, hp0, b4, b2, textsL, hf, hsl, hh, q1, q2, q3, q4, k0a, g0a, g1a, Option.isSome_some, cub] at hx; (try (rw [guardF_if] at hx; split at hx <;> rename_i hc)))); all_goals (subst hx; first | (refine ⟨_, rfl, fun ht => ?_, fun ht => ?_⟩ <;> (try simp only [bbs] at ht)) | (refine ⟨_, rfl, ?_⟩; (try simp only [tupOf])))) | refine wSkip ?_ | (refine wExit ?_; simp only [thenQ, blockQ, reduceIte, Nat.reduceEqDiff]) | refine wSeq ?_ | refine wBlock ?_)
  all_goals try (exfalso; (try simp only [bbs] at *); first | omega | exact absurd trivial (by assumption))
  (try rw [if_neg ha]); (try rw [if_neg (by omega)]); (try rw [if_pos (by omega)]); (try simp only [Option.map_some])
  all_goals first | exact ev_leaf (by first | exact dN | exact dB _ | exact dE | exact dO _) (by first | exact dN | exact dB _ | exact dE | exact dO _) rfl (fun z hz => by first | (cases hz; rfl) | cases hz)
theorem p_parsed_turn (w a b c : ByteArray) (hw : w.data.toList = [116, 117, 114, 110]) (hz : ∀ z ∈ [w, a, b, c], z.size ≤ 1048576) : ∃ v cl, EvQ (evS [w, a, b, c]) v ∧ pure Tryz.prog cfg0 32 Tryz.f32 [textsL [w, a, b, c]] = some (v, cl) := by
  refine pure_ex (rs := [.cell 2 26, .tmp 3]) rfl rfl ?_
  have hp0 : ∀ b, cfg0.pol 32 b = (if b = 111 then 3 else if b = 112 then 3 else if b = 114 then 3 else if b = 115 then 3 else if b = 116 then 3 else if b = 135 then 3 else if b = 136 then 3 else if b = 1000000 then 2 else 0) := fun b => rfl
  have hf := c_form_turn w hw
  have T : textsL [w, a, b, c] = .lst false [[.v (.string w)], [.v (.string a)], [.v (.string b)], [.v (.string c)]] := rfl
  have hsl := slice_rest (c := [.v (.string w)]) (xs := [[.v (.string a)], [.v (.string b)], [.v (.string c)]]) rfl
  have e_tick : (w.data.toList = [116, 105, 99, 107]) = False := eq_false (by rw [hw]; decide)
  have e_stop : (w.data.toList = [115, 116, 111, 112]) = False := eq_false (by rw [hw]; decide)
  have e_come : (w.data.toList = [99, 111, 109, 101]) = False := eq_false (by rw [hw]; decide)
  have e_close : (w.data.toList = [108, 111, 115, 101]) = False := eq_false (by rw [hw]; decide)
  have e_copy : (w.data.toList = [99, 111, 112, 121]) = False := eq_false (by rw [hw]; decide)
  have e_turn : (w.data.toList = [116, 117, 114, 110]) = True := eq_true hw
  have e_push : (w.data.toList = [112, 117, 115, 104]) = False := eq_false (by rw [hw]; decide)
  have e_install : (w.data.toList = [105, 110, 115, 116, 97, 108, 108]) = False := eq_false (by rw [hw]; decide)
  have e_use : (w.data.toList = [117, 115, 101]) = False := eq_false (by rw [hw]; decide)
  have e_remove : (w.data.toList = [114, 101, 109, 111, 118, 101]) = False := eq_false (by rw [hw]; decide)
  have hev : evS [w, a, b, c] = evS [w, a, b, c] := rfl
  conv at hev => rhs; simp only [evS, evK, key3, e_tick, e_stop, e_come, e_close, e_copy, e_turn, e_push, e_install, e_use, e_remove, if_true, if_false]
  rw [hev]
  clear hev
  unfold num
  have cna := c_iNumberOf a (hz a (by simp))
  unfold numC numV at cna
  generalize numOf 7 a.data.toList = na at *
  have cnb := c_iNumberOf b (hz b (by simp))
  unfold numC numV at cnb
  generalize numOf 7 b.data.toList = nb at *
  have cnc := c_iNumberOf c (hz c (by simp))
  unfold numC numV at cnc
  generalize numOf 7 c.data.toList = nc at *
  repeat' (first | ((first | refine wSeqrF ?_ | refine wIf ?_ | refine wRegF ?_ | (refine wRet ?_; (try simp only [thenQ, blockQ]); refine ends_by ?_)); intro xx hx; have hc := trivial; (repeat' (simp only [hc, Nat.reduceBEq, go_sem, Nat.reduceAdd, Nat.reduceMul, Nat.reduceSub, Nat.reduceEqDiff, Nat.reduceLT, Nat.reduceLeDiff, Int.reduceEq, Int.reduceLT, Int.reduceLE, reduceIte, aresults, aresult, hp0, b4, b2, textsL, hf, hsl] at hx; (try (rw [guardF_if] at hx; split at hx <;> rename_i hc)))); all_goals (subst hx; first | (refine ⟨_, rfl, fun ht => ?_, fun ht => ?_⟩ <;> (try simp only [bbs] at ht)) | (refine ⟨_, rfl, ?_⟩; (try simp only [tupOf])))) | refine wSkip ?_ | (refine wExit ?_; simp only [thenQ, blockQ, reduceIte, Nat.reduceEqDiff]) | refine wSeq ?_ | refine wBlock ?_)
  all_goals try (exfalso; (try simp only [bbs] at *); first | omega | exact absurd trivial (by assumption))
  refine wUnroll ?_
  by_cases ha : na < 0
  · simp only [if_pos ha] at cna
    repeat' (first | ((first | refine wSeqrF ?_ | refine wIf ?_ | refine wRegF ?_ | (refine wRet ?_; (try simp only [thenQ, blockQ]); refine ends_by ?_)); intro xx hx; have hc := trivial; (repeat' (simp only [hc, Nat.reduceBEq, go_sem, Nat.reduceAdd, Nat.reduceMul, Nat.reduceSub, Nat.reduceEqDiff, Nat.reduceLT, Nat.reduceLeDiff, Int.reduceEq, Int.reduceLT, Int.reduceLE, reduceIte, aresults, aresult, hp0, b4, b2, textsL, hf, hsl, cna] at hx; (try (rw [guardF_if] at hx; split at hx <;> rename_i hc)))); all_goals (subst hx; first | (refine ⟨_, rfl, fun ht => ?_, fun ht => ?_⟩ <;> (try simp only [bbs] at ht)) | (refine ⟨_, rfl, ?_⟩; (try simp only [tupOf])))) | refine wSkip ?_ | (refine wExit ?_; simp only [thenQ, blockQ, reduceIte, Nat.reduceEqDiff]) | refine wSeq ?_ | refine wBlock ?_)
    all_goals try (exfalso; (try simp only [bbs] at *); first | omega | exact absurd trivial (by assumption))
    all_goals first | exact ev_leaf (by first | exact dN | exact dB _ | exact dE | exact dO _) (by first | exact dN | exact dB _ | exact dE | exact dO _) (by simp [*]) (fun z hz => by simp [*] at hz) | skip
  simp only [if_neg ha] at cna
  repeat' ((fail_if_success (first | refine wAt 20 ?_)); first | ((first | refine wSeqrF ?_ | refine wIf ?_ | refine wRegF ?_ | (refine wRet ?_; (try simp only [thenQ, blockQ]); refine ends_by ?_)); intro xx hx; have hc := trivial; (repeat' (simp only [hc, Nat.reduceBEq, go_sem, Nat.reduceAdd, Nat.reduceMul, Nat.reduceSub, Nat.reduceEqDiff, Nat.reduceLT, Nat.reduceLeDiff, Int.reduceEq, Int.reduceLT, Int.reduceLE, reduceIte, aresults, aresult, hp0, b4, b2, textsL, hf, hsl, cna] at hx; (try (rw [guardF_if] at hx; split at hx <;> rename_i hc)))); all_goals (subst hx; first | (refine ⟨_, rfl, fun ht => ?_, fun ht => ?_⟩ <;> (try simp only [bbs] at ht)) | (refine ⟨_, rfl, ?_⟩; (try simp only [tupOf])))) | refine wSkip ?_ | (refine wExit ?_; simp only [thenQ, blockQ, reduceIte, Nat.reduceEqDiff]) | refine wSeq ?_ | refine wBlock ?_)
  all_goals try (exfalso; (try simp only [bbs] at *); first | omega | exact absurd trivial (by assumption))
  (first | refine wSeqrF ?_ | refine wRegF ?_); intro xx hx; have hc := trivial; (repeat' (simp only [hc, Nat.reduceBEq, go_sem, Nat.reduceAdd, Nat.reduceMul, Nat.reduceSub, Nat.reduceEqDiff, Nat.reduceLT, Nat.reduceLeDiff, Int.reduceEq, Int.reduceLT, Int.reduceLE, reduceIte, aresults, aresult, hp0, b4, b2, textsL, hf, hsl] at hx; (try (rw [guardF_if] at hx; split at hx <;> rename_i hc)))); generalize hq : aappend Tryz.prog _ _ _ _ = q at hx
  obtain ⟨xa, Ka, rfl, hacca, hga, hka, hoa⟩ := app_rows hq el97 zero2 by2 int97 (sz := 1) rfl (by omega) RAcc.nil (m := 1) rfl (afirst_one _ _ [AV.v (.int .i64 na)]) rfl (by omega) (by omega)
  clear hq
  simp only [Hp.set_g, Hp.new_g, Hp.nil, List.nil_append, List.cons_append, Nat.zero_add, Nat.reduceAdd] at hga hka hacca hoa
  have k0a : Ka.h 0 = some [AV.v (.int .i64 0), .v (.int .i64 0), .v (.int .i64 0), .v (.int .i64 0), .v (.slice none 0 0), .v (.int .i64 0), .v (.int .i64 0), .v (.slice none 0 0)] := (hka 0 (by omega) off_nil).trans rfl
  have f0a : Off 0 xa := hoa 0 (by omega) off_nil
  have g0a : (0 = Ka.g) = False := eq_false (by omega)
  have g1a : (Ka.g = 0) = False := eq_false (by omega)
  have hc := trivial; (repeat' (simp only [hc, Nat.reduceBEq, go_sem, Nat.reduceAdd, Nat.reduceMul, Nat.reduceSub, Nat.reduceEqDiff, Nat.reduceLT, Nat.reduceLeDiff, Int.reduceEq, Int.reduceLT, Int.reduceLE, reduceIte, aresults, aresult, hp0, b4, b2, textsL, hf, hsl] at hx; (try (rw [guardF_if] at hx; split at hx <;> rename_i hc)))); all_goals (subst hx; refine ⟨_, rfl, ?_⟩)
  repeat' (first | ((first | refine wSeqrF ?_ | refine wIf ?_ | refine wRegF ?_ | (refine wRet ?_; (try simp only [thenQ, blockQ]); refine ends_by ?_)); intro xx hx; have hc := trivial; (repeat' (simp only [hc, Nat.reduceBEq, go_sem, Nat.reduceAdd, Nat.reduceMul, Nat.reduceSub, Nat.reduceEqDiff, Nat.reduceLT, Nat.reduceLeDiff, Int.reduceEq, Int.reduceLT, Int.reduceLE, reduceIte, aresults, aresult, hp0, b4, b2, textsL, hf, hsl] at hx; (try (rw [guardF_if] at hx; split at hx <;> rename_i hc)))); all_goals (subst hx; first | (refine ⟨_, rfl, fun ht => ?_, fun ht => ?_⟩ <;> (try simp only [bbs] at ht)) | (refine ⟨_, rfl, ?_⟩; (try simp only [tupOf])))) | refine wSkip ?_ | (refine wExit ?_; simp only [thenQ, blockQ, reduceIte, Nat.reduceEqDiff]) | refine wSeq ?_ | refine wBlock ?_)
  refine wUnroll ?_
  by_cases hb : nb < 0
  · simp only [if_pos hb] at cnb
    rw [if_neg ha, if_neg (by omega)]
    repeat' (first | ((first | refine wSeqrF ?_ | refine wIf ?_ | refine wRegF ?_ | (refine wRet ?_; (try simp only [thenQ, blockQ]); refine ends_by ?_)); intro xx hx; have hc := trivial; (repeat' (simp only [hc, Nat.reduceBEq, go_sem, Nat.reduceAdd, Nat.reduceMul, Nat.reduceSub, Nat.reduceEqDiff, Nat.reduceLT, Nat.reduceLeDiff, Int.reduceEq, Int.reduceLT, Int.reduceLE, reduceIte, aresults, aresult, hp0, b4, b2, textsL, hf, hsl, cnb, k0a, g0a, g1a, Option.isSome_some] at hx; (try (rw [guardF_if] at hx; split at hx <;> rename_i hc)))); all_goals (subst hx; first | (refine ⟨_, rfl, fun ht => ?_, fun ht => ?_⟩ <;> (try simp only [bbs] at ht)) | (refine ⟨_, rfl, ?_⟩; (try simp only [tupOf])))) | refine wSkip ?_ | (refine wExit ?_; simp only [thenQ, blockQ, reduceIte, Nat.reduceEqDiff]) | refine wSeq ?_ | refine wBlock ?_)
    all_goals try (exfalso; (try simp only [bbs] at *); first | omega | exact absurd trivial (by assumption))
    all_goals first | exact ev_leaf (by first | exact dN | exact dB _ | exact dE | exact dO _) (by first | exact dN | exact dB _ | exact dE | exact dO _) rfl (fun z hz => by first | (cases hz; rfl) | cases hz)
  simp only [if_neg hb] at cnb
  repeat' ((fail_if_success (first | refine wAt 20 ?_)); first | ((first | refine wSeqrF ?_ | refine wIf ?_ | refine wRegF ?_ | (refine wRet ?_; (try simp only [thenQ, blockQ]); refine ends_by ?_)); intro xx hx; have hc := trivial; (repeat' (simp only [hc, Nat.reduceBEq, go_sem, Nat.reduceAdd, Nat.reduceMul, Nat.reduceSub, Nat.reduceEqDiff, Nat.reduceLT, Nat.reduceLeDiff, Int.reduceEq, Int.reduceLT, Int.reduceLE, reduceIte, aresults, aresult, hp0, b4, b2, textsL, hf, hsl, cnb] at hx; (try (rw [guardF_if] at hx; split at hx <;> rename_i hc)))); all_goals (subst hx; first | (refine ⟨_, rfl, fun ht => ?_, fun ht => ?_⟩ <;> (try simp only [bbs] at ht)) | (refine ⟨_, rfl, ?_⟩; (try simp only [tupOf])))) | refine wSkip ?_ | (refine wExit ?_; simp only [thenQ, blockQ, reduceIte, Nat.reduceEqDiff]) | refine wSeq ?_ | refine wBlock ?_)
  all_goals try (exfalso; (try simp only [bbs] at *); first | omega | exact absurd trivial (by assumption))
  (first | refine wSeqrF ?_ | refine wRegF ?_); intro xx hx; have hc := trivial; (repeat' (simp only [hc, Nat.reduceBEq, go_sem, Nat.reduceAdd, Nat.reduceMul, Nat.reduceSub, Nat.reduceEqDiff, Nat.reduceLT, Nat.reduceLeDiff, Int.reduceEq, Int.reduceLT, Int.reduceLE, reduceIte, aresults, aresult, hp0, b4, b2, textsL, hf, hsl] at hx; (try (rw [guardF_if] at hx; split at hx <;> rename_i hc)))); generalize hq : aappend Tryz.prog _ _ _ _ = q at hx
  obtain ⟨xb, Kb, rfl, haccb, hgb, hkb, hob⟩ := app_rows hq el97 zero2 by2 int97 (sz := 1) rfl (by omega) (hacca.ext ⟨by simp only [Hp.set_g, Hp.new_g]; omega, fun b hb => by simp only [Hp.set_h, Hp.new_h]; (repeat' split) <;> first | omega | rfl⟩) (m := 1) rfl (afirst_one _ _ [AV.v (.int .i64 nb)]) rfl (by omega) (by omega)
  clear hq
  simp only [Hp.set_g, Hp.new_g, Hp.nil, List.nil_append, List.cons_append, Nat.zero_add, Nat.reduceAdd] at hgb hkb haccb hob
  have k0b : Kb.h 0 = some [AV.v (.int .i64 0), .v (.int .i64 0), .v (.int .i64 0), .v (.int .i64 0), .v (.slice none 0 0), .v (.int .i64 0), .v (.int .i64 0), .v (.slice none 0 0)] := (hkb 0 (by omega) f0a).trans (by simp only [Hp.set_h, Hp.new_h]; rw [if_neg (by omega), if_neg (by omega)]; exact k0a)
  have f0b : Off 0 xb := hob 0 (by omega) f0a
  have g0b : (0 = Kb.g) = False := eq_false (by omega)
  have g1b : (Kb.g = 0) = False := eq_false (by omega)
  have hc := trivial; (repeat' (simp only [hc, Nat.reduceBEq, go_sem, Nat.reduceAdd, Nat.reduceMul, Nat.reduceSub, Nat.reduceEqDiff, Nat.reduceLT, Nat.reduceLeDiff, Int.reduceEq, Int.reduceLT, Int.reduceLE, reduceIte, aresults, aresult, hp0, b4, b2, textsL, hf, hsl] at hx; (try (rw [guardF_if] at hx; split at hx <;> rename_i hc)))); all_goals (subst hx; refine ⟨_, rfl, ?_⟩)
  repeat' (first | ((first | refine wSeqrF ?_ | refine wIf ?_ | refine wRegF ?_ | (refine wRet ?_; (try simp only [thenQ, blockQ]); refine ends_by ?_)); intro xx hx; have hc := trivial; (repeat' (simp only [hc, Nat.reduceBEq, go_sem, Nat.reduceAdd, Nat.reduceMul, Nat.reduceSub, Nat.reduceEqDiff, Nat.reduceLT, Nat.reduceLeDiff, Int.reduceEq, Int.reduceLT, Int.reduceLE, reduceIte, aresults, aresult, hp0, b4, b2, textsL, hf, hsl] at hx; (try (rw [guardF_if] at hx; split at hx <;> rename_i hc)))); all_goals (subst hx; first | (refine ⟨_, rfl, fun ht => ?_, fun ht => ?_⟩ <;> (try simp only [bbs] at ht)) | (refine ⟨_, rfl, ?_⟩; (try simp only [tupOf])))) | refine wSkip ?_ | (refine wExit ?_; simp only [thenQ, blockQ, reduceIte, Nat.reduceEqDiff]) | refine wSeq ?_ | refine wBlock ?_)
  refine wUnroll ?_
  by_cases hc : nc < 0
  · simp only [if_pos hc] at cnc
    rw [if_neg ha, if_neg (by omega)]
    repeat' (first | ((first | refine wSeqrF ?_ | refine wIf ?_ | refine wRegF ?_ | (refine wRet ?_; (try simp only [thenQ, blockQ]); refine ends_by ?_)); intro xx hx; have hc := trivial; (repeat' (simp only [hc, Nat.reduceBEq, go_sem, Nat.reduceAdd, Nat.reduceMul, Nat.reduceSub, Nat.reduceEqDiff, Nat.reduceLT, Nat.reduceLeDiff, Int.reduceEq, Int.reduceLT, Int.reduceLE, reduceIte, aresults, aresult, hp0, b4, b2, textsL, hf, hsl, cnc, k0b, g0b, g1b, Option.isSome_some] at hx; (try (rw [guardF_if] at hx; split at hx <;> rename_i hc)))); all_goals (subst hx; first | (refine ⟨_, rfl, fun ht => ?_, fun ht => ?_⟩ <;> (try simp only [bbs] at ht)) | (refine ⟨_, rfl, ?_⟩; (try simp only [tupOf])))) | refine wSkip ?_ | (refine wExit ?_; simp only [thenQ, blockQ, reduceIte, Nat.reduceEqDiff]) | refine wSeq ?_ | refine wBlock ?_)
    all_goals try (exfalso; (try simp only [bbs] at *); first | omega | exact absurd trivial (by assumption))
    all_goals first | exact ev_leaf (by first | exact dN | exact dB _ | exact dE | exact dO _) (by first | exact dN | exact dB _ | exact dE | exact dO _) rfl (fun z hz => by first | (cases hz; rfl) | cases hz)
  simp only [if_neg hc] at cnc
  repeat' ((fail_if_success (first | refine wAt 20 ?_)); first | ((first | refine wSeqrF ?_ | refine wIf ?_ | refine wRegF ?_ | (refine wRet ?_; (try simp only [thenQ, blockQ]); refine ends_by ?_)); intro xx hx; have hc := trivial; (repeat' (simp only [hc, Nat.reduceBEq, go_sem, Nat.reduceAdd, Nat.reduceMul, Nat.reduceSub, Nat.reduceEqDiff, Nat.reduceLT, Nat.reduceLeDiff, Int.reduceEq, Int.reduceLT, Int.reduceLE, reduceIte, aresults, aresult, hp0, b4, b2, textsL, hf, hsl, cnc] at hx; (try (rw [guardF_if] at hx; split at hx <;> rename_i hc)))); all_goals (subst hx; first | (refine ⟨_, rfl, fun ht => ?_, fun ht => ?_⟩ <;> (try simp only [bbs] at ht)) | (refine ⟨_, rfl, ?_⟩; (try simp only [tupOf])))) | refine wSkip ?_ | (refine wExit ?_; simp only [thenQ, blockQ, reduceIte, Nat.reduceEqDiff]) | refine wSeq ?_ | refine wBlock ?_)
  all_goals try (exfalso; (try simp only [bbs] at *); first | omega | exact absurd trivial (by assumption))
  (first | refine wSeqrF ?_ | refine wRegF ?_); intro xx hx; have hc := trivial; (repeat' (simp only [hc, Nat.reduceBEq, go_sem, Nat.reduceAdd, Nat.reduceMul, Nat.reduceSub, Nat.reduceEqDiff, Nat.reduceLT, Nat.reduceLeDiff, Int.reduceEq, Int.reduceLT, Int.reduceLE, reduceIte, aresults, aresult, hp0, b4, b2, textsL, hf, hsl] at hx; (try (rw [guardF_if] at hx; split at hx <;> rename_i hc)))); generalize hq : aappend Tryz.prog _ _ _ _ = q at hx
  obtain ⟨xc, Kc, rfl, haccc, hgc, hkc, hoc⟩ := app_rows hq el97 zero2 by2 int97 (sz := 1) rfl (by omega) (haccb.ext ⟨by simp only [Hp.set_g, Hp.new_g]; omega, fun b hb => by simp only [Hp.set_h, Hp.new_h]; (repeat' split) <;> first | omega | rfl⟩) (m := 1) rfl (afirst_one _ _ [AV.v (.int .i64 nc)]) rfl (by omega) (by omega)
  clear hq
  simp only [Hp.set_g, Hp.new_g, Hp.nil, List.nil_append, List.cons_append, Nat.zero_add, Nat.reduceAdd] at hgc hkc haccc hoc
  have k0c : Kc.h 0 = some [AV.v (.int .i64 0), .v (.int .i64 0), .v (.int .i64 0), .v (.int .i64 0), .v (.slice none 0 0), .v (.int .i64 0), .v (.int .i64 0), .v (.slice none 0 0)] := (hkc 0 (by omega) f0b).trans (by simp only [Hp.set_h, Hp.new_h]; rw [if_neg (by omega), if_neg (by omega)]; exact k0b)
  have f0c : Off 0 xc := hoc 0 (by omega) f0b
  have g0c : (0 = Kc.g) = False := eq_false (by omega)
  have g1c : (Kc.g = 0) = False := eq_false (by omega)
  obtain ⟨p, hpp, rfl, hh⟩ := own_at haccc
  have q1 : (p = Kc.g) = False := eq_false (by omega)
  have q2 : (Kc.g = p) = False := eq_false (by omega)
  have q3 : (p = 0) = False := eq_false (fun e => f0c _ _ _ (by rw [e]))
  have q4 : (0 = p) = False := eq_false (fun e => f0c _ _ _ (by rw [← e]))
  have hc := trivial; (repeat' (simp only [hc, Nat.reduceBEq, go_sem, Nat.reduceAdd, Nat.reduceMul, Nat.reduceSub, Nat.reduceEqDiff, Nat.reduceLT, Nat.reduceLeDiff, Int.reduceEq, Int.reduceLT, Int.reduceLE, reduceIte, aresults, aresult, hp0, b4, b2, textsL, hf, hsl] at hx; (try (rw [guardF_if] at hx; split at hx <;> rename_i hc)))); all_goals (subst hx; refine ⟨_, rfl, ?_⟩)
  repeat' (first | ((first | refine wSeqrF ?_ | refine wIf ?_ | refine wRegF ?_ | (refine wRet ?_; (try simp only [thenQ, blockQ]); refine ends_by ?_)); intro xx hx; have hc := trivial; (repeat' (simp only [hc, Nat.reduceBEq, go_sem, Nat.reduceAdd, Nat.reduceMul, Nat.reduceSub, Nat.reduceEqDiff, Nat.reduceLT, Nat.reduceLeDiff, Int.reduceEq, Int.reduceLT, Int.reduceLE, reduceIte, aresults, aresult, hp0, b4, b2, textsL, hf, hsl, hh, q1, q2, q3, q4, k0c, g0c, g1c, Option.isSome_some] at hx; (try (rw [guardF_if] at hx; split at hx <;> rename_i hc)))); all_goals (subst hx; first | (refine ⟨_, rfl, fun ht => ?_, fun ht => ?_⟩ <;> (try simp only [bbs] at ht)) | (refine ⟨_, rfl, ?_⟩; (try simp only [tupOf])))) | refine wSkip ?_ | (refine wExit ?_; simp only [thenQ, blockQ, reduceIte, Nat.reduceEqDiff]) | refine wSeq ?_ | refine wBlock ?_)
  all_goals try (exfalso; (try simp only [bbs] at *); first | omega | exact absurd trivial (by assumption))
  refine wUnroll ?_
  by_cases h255 : 255 < nb
  · rw [if_neg ha, if_neg (by omega)]
    repeat' (first | ((first | refine wSeqrF ?_ | refine wIf ?_ | refine wRegF ?_ | (refine wRet ?_; (try simp only [thenQ, blockQ]); refine ends_by ?_)); intro xx hx; have hc := trivial; (repeat' (simp only [hc, Nat.reduceBEq, go_sem, Nat.reduceAdd, Nat.reduceMul, Nat.reduceSub, Nat.reduceEqDiff, Nat.reduceLT, Nat.reduceLeDiff, Int.reduceEq, Int.reduceLT, Int.reduceLE, reduceIte, aresults, aresult, hp0, b4, b2, textsL, hf, hsl, hh, q1, q2, q3, q4, k0c, g0c, g1c, Option.isSome_some, h255] at hx; (try (rw [guardF_if] at hx; split at hx <;> rename_i hc)))); all_goals (subst hx; first | (refine ⟨_, rfl, fun ht => ?_, fun ht => ?_⟩ <;> (try simp only [bbs] at ht)) | (refine ⟨_, rfl, ?_⟩; (try simp only [tupOf])))) | refine wSkip ?_ | (refine wExit ?_; simp only [thenQ, blockQ, reduceIte, Nat.reduceEqDiff]) | refine wSeq ?_ | refine wBlock ?_)
    all_goals try (exfalso; (try simp only [bbs] at *); first | omega | exact absurd trivial (by assumption))
    all_goals first | exact ev_leaf (by first | exact dN | exact dB _ | exact dE | exact dO _) (by first | exact dN | exact dB _ | exact dE | exact dO _) rfl (fun z hz => by first | (cases hz; rfl) | cases hz)
  · have hwb := wrap_b (n := nb) (by omega)
    repeat' ((fail_if_success (first | refine wAt 34 ?_)); first | ((first | refine wSeqrF ?_ | refine wIf ?_ | refine wRegF ?_ | (refine wRet ?_; (try simp only [thenQ, blockQ]); refine ends_by ?_)); intro xx hx; have hc := trivial; (repeat' (simp only [hc, Nat.reduceBEq, go_sem, Nat.reduceAdd, Nat.reduceMul, Nat.reduceSub, Nat.reduceEqDiff, Nat.reduceLT, Nat.reduceLeDiff, Int.reduceEq, Int.reduceLT, Int.reduceLE, reduceIte, aresults, aresult, hp0, b4, b2, textsL, hf, hsl, hh, q1, q2, q3, q4, k0c, g0c, g1c, Option.isSome_some, h255, hwb, aconv_int u2 u5] at hx; (try (rw [guardF_if] at hx; split at hx <;> rename_i hc)))); all_goals (subst hx; first | (refine ⟨_, rfl, fun ht => ?_, fun ht => ?_⟩ <;> (try simp only [bbs] at ht)) | (refine ⟨_, rfl, ?_⟩; (try simp only [tupOf])))) | refine wSkip ?_ | (refine wExit ?_; simp only [thenQ, blockQ, reduceIte, Nat.reduceEqDiff]) | refine wSeq ?_ | refine wBlock ?_)
    all_goals try (exfalso; (try simp only [bbs] at *); first | omega | exact absurd trivial (by assumption))
    refine wRegK (Hp.one p [AV.v (.int .i64 na), AV.v (.int .i64 nb), AV.v (.int .i64 nc)]) (hExt_one (by simp only [Hp.set_h, Hp.new_h, q1, q2, q3, q4, if_false]; exact hh)) (fun xx hx => ?_)
    have hc := trivial; (repeat' (simp only [hc, Nat.reduceBEq, go_sem, Nat.reduceAdd, Nat.reduceMul, Nat.reduceSub, Nat.reduceEqDiff, Nat.reduceLT, Nat.reduceLeDiff, Int.reduceEq, Int.reduceLT, Int.reduceLE, reduceIte, aresults, aresult, hp0, b4, b2, textsL, hf, hsl, hh, q1, q2, q3, q4, k0c, g0c, g1c, Option.isSome_some, h255, hwb, aconv_int u2 u5] at hx; (try ((first | rw [guardL_if] at hx | rw [guardF_if] at hx); split at hx <;> rename_i hc)))); all_goals (subst hx; refine ⟨_, rfl, ?_⟩)
    repeat' (first | ((first | refine wSeqrF ?_ | refine wIf ?_ | refine wRegF ?_ | (refine wRet ?_; (try simp only [thenQ, blockQ]); refine ends_by ?_)); intro xx hx; have hc := trivial; (repeat' (simp only [hc, Nat.reduceBEq, go_sem, Nat.reduceAdd, Nat.reduceMul, Nat.reduceSub, Nat.reduceEqDiff, Nat.reduceLT, Nat.reduceLeDiff, Int.reduceEq, Int.reduceLT, Int.reduceLE, reduceIte, aresults, aresult, hp0, b4, b2, textsL, hf, hsl, hh, q1, q2, q3, q4, k0c, g0c, g1c, Option.isSome_some, h255, hwb, aconv_int u2 u5] at hx; (try (rw [guardF_if] at hx; split at hx <;> rename_i hc)))); all_goals (subst hx; first | (refine ⟨_, rfl, fun ht => ?_, fun ht => ?_⟩ <;> (try simp only [bbs] at ht)) | (refine ⟨_, rfl, ?_⟩; (try simp only [tupOf])))) | refine wSkip ?_ | (refine wExit ?_; simp only [thenQ, blockQ, reduceIte, Nat.reduceEqDiff]) | refine wSeq ?_ | refine wBlock ?_)
    all_goals try (exfalso; (try simp only [bbs] at *); first | omega | exact absurd trivial (by assumption))
    (try rw [if_neg ha]); (try rw [if_neg (by omega)]); (try rw [if_pos (by omega)]); (try simp only [Option.map_some])
    all_goals first | exact ev_leaf (by first | exact dN | exact dB _ | exact dE | exact dO _) (by first | exact dN | exact dB _ | exact dE | exact dO _) rfl (fun z hz => by first | (cases hz; rfl) | cases hz)
theorem p_parsed_install (w a b c : ByteArray) (hw : w.data.toList = [105, 110, 115, 116, 97, 108, 108]) (hz : ∀ z ∈ [w, a, b, c], z.size ≤ 1048576) : ∃ v cl, EvQ (evS [w, a, b, c]) v ∧ pure Tryz.prog cfg0 32 Tryz.f32 [textsL [w, a, b, c]] = some (v, cl) := by
  refine pure_ex (rs := [.cell 2 26, .tmp 3]) rfl rfl ?_
  have hp0 : ∀ b, cfg0.pol 32 b = (if b = 111 then 3 else if b = 112 then 3 else if b = 114 then 3 else if b = 115 then 3 else if b = 116 then 3 else if b = 135 then 3 else if b = 136 then 3 else if b = 1000000 then 2 else 0) := fun b => rfl
  have hf := c_form_install w hw
  have T : textsL [w, a, b, c] = .lst false [[.v (.string w)], [.v (.string a)], [.v (.string b)], [.v (.string c)]] := rfl
  have hsl := slice_rest (c := [.v (.string w)]) (xs := [[.v (.string a)], [.v (.string b)], [.v (.string c)]]) rfl
  have e_tick : (w.data.toList = [116, 105, 99, 107]) = False := eq_false (by rw [hw]; decide)
  have e_stop : (w.data.toList = [115, 116, 111, 112]) = False := eq_false (by rw [hw]; decide)
  have e_come : (w.data.toList = [99, 111, 109, 101]) = False := eq_false (by rw [hw]; decide)
  have e_close : (w.data.toList = [108, 111, 115, 101]) = False := eq_false (by rw [hw]; decide)
  have e_copy : (w.data.toList = [99, 111, 112, 121]) = False := eq_false (by rw [hw]; decide)
  have e_turn : (w.data.toList = [116, 117, 114, 110]) = False := eq_false (by rw [hw]; decide)
  have e_push : (w.data.toList = [112, 117, 115, 104]) = False := eq_false (by rw [hw]; decide)
  have e_install : (w.data.toList = [105, 110, 115, 116, 97, 108, 108]) = True := eq_true hw
  have e_use : (w.data.toList = [117, 115, 101]) = False := eq_false (by rw [hw]; decide)
  have e_remove : (w.data.toList = [114, 101, 109, 111, 118, 101]) = False := eq_false (by rw [hw]; decide)
  have hev : evS [w, a, b, c] = evS [w, a, b, c] := rfl
  conv at hev => rhs; simp only [evS, evK, key3, e_tick, e_stop, e_come, e_close, e_copy, e_turn, e_push, e_install, e_use, e_remove, if_true, if_false]
  rw [hev]
  clear hev
  unfold num
  have cna := c_iNumberOf a (hz a (by simp))
  unfold numC numV at cna
  generalize numOf 7 a.data.toList = na at *
  have cnb := c_iNumberOf b (hz b (by simp))
  unfold numC numV at cnb
  generalize numOf 7 b.data.toList = nb at *
  have cuc := c_iunhex c (hz c (by simp))
  unfold unRes at cuc
  have ruc := fun d => rd_of_un (w := c.data.toList) (l := d)
  have rvc := fun d => rd_of_un0 (w := c.data.toList) (l := d)
  have rnc := rd_of_no (w := c.data.toList)
  generalize hexUn c.data.toList = ouc at *
  generalize hexRd c.data.toList = ohc at *
  repeat' (first | ((first | refine wSeqrF ?_ | refine wIf ?_ | refine wRegF ?_ | (refine wRet ?_; (try simp only [thenQ, blockQ]); refine ends_by ?_)); intro xx hx; have hc := trivial; (repeat' (simp only [hc, Nat.reduceBEq, go_sem, Nat.reduceAdd, Nat.reduceMul, Nat.reduceSub, Nat.reduceEqDiff, Nat.reduceLT, Nat.reduceLeDiff, Int.reduceEq, Int.reduceLT, Int.reduceLE, reduceIte, aresults, aresult, hp0, b4, b2, textsL, hf, hsl] at hx; (try (rw [guardF_if] at hx; split at hx <;> rename_i hc)))); all_goals (subst hx; first | (refine ⟨_, rfl, fun ht => ?_, fun ht => ?_⟩ <;> (try simp only [bbs] at ht)) | (refine ⟨_, rfl, ?_⟩; (try simp only [tupOf])))) | refine wSkip ?_ | (refine wExit ?_; simp only [thenQ, blockQ, reduceIte, Nat.reduceEqDiff]) | refine wSeq ?_ | refine wBlock ?_)
  all_goals try (exfalso; (try simp only [bbs] at *); first | omega | exact absurd trivial (by assumption))
  refine wUnroll ?_
  by_cases ha : na < 0
  · simp only [if_pos ha] at cna
    repeat' (first | ((first | refine wSeqrF ?_ | refine wIf ?_ | refine wRegF ?_ | (refine wRet ?_; (try simp only [thenQ, blockQ]); refine ends_by ?_)); intro xx hx; have hc := trivial; (repeat' (simp only [hc, Nat.reduceBEq, go_sem, Nat.reduceAdd, Nat.reduceMul, Nat.reduceSub, Nat.reduceEqDiff, Nat.reduceLT, Nat.reduceLeDiff, Int.reduceEq, Int.reduceLT, Int.reduceLE, reduceIte, aresults, aresult, hp0, b4, b2, textsL, hf, hsl, cna] at hx; (try (rw [guardF_if] at hx; split at hx <;> rename_i hc)))); all_goals (subst hx; first | (refine ⟨_, rfl, fun ht => ?_, fun ht => ?_⟩ <;> (try simp only [bbs] at ht)) | (refine ⟨_, rfl, ?_⟩; (try simp only [tupOf])))) | refine wSkip ?_ | (refine wExit ?_; simp only [thenQ, blockQ, reduceIte, Nat.reduceEqDiff]) | refine wSeq ?_ | refine wBlock ?_)
    all_goals try (exfalso; (try simp only [bbs] at *); first | omega | exact absurd trivial (by assumption))
    all_goals first | exact ev_leaf (by first | exact dN | exact dB _ | exact dE | exact dO _) (by first | exact dN | exact dB _ | exact dE | exact dO _) (by simp [*]) (fun z hz => by simp [*] at hz) | skip
  simp only [if_neg ha] at cna
  repeat' ((fail_if_success (first | refine wAt 20 ?_)); first | ((first | refine wSeqrF ?_ | refine wIf ?_ | refine wRegF ?_ | (refine wRet ?_; (try simp only [thenQ, blockQ]); refine ends_by ?_)); intro xx hx; have hc := trivial; (repeat' (simp only [hc, Nat.reduceBEq, go_sem, Nat.reduceAdd, Nat.reduceMul, Nat.reduceSub, Nat.reduceEqDiff, Nat.reduceLT, Nat.reduceLeDiff, Int.reduceEq, Int.reduceLT, Int.reduceLE, reduceIte, aresults, aresult, hp0, b4, b2, textsL, hf, hsl, cna] at hx; (try (rw [guardF_if] at hx; split at hx <;> rename_i hc)))); all_goals (subst hx; first | (refine ⟨_, rfl, fun ht => ?_, fun ht => ?_⟩ <;> (try simp only [bbs] at ht)) | (refine ⟨_, rfl, ?_⟩; (try simp only [tupOf])))) | refine wSkip ?_ | (refine wExit ?_; simp only [thenQ, blockQ, reduceIte, Nat.reduceEqDiff]) | refine wSeq ?_ | refine wBlock ?_)
  all_goals try (exfalso; (try simp only [bbs] at *); first | omega | exact absurd trivial (by assumption))
  (first | refine wSeqrF ?_ | refine wRegF ?_); intro xx hx; have hc := trivial; (repeat' (simp only [hc, Nat.reduceBEq, go_sem, Nat.reduceAdd, Nat.reduceMul, Nat.reduceSub, Nat.reduceEqDiff, Nat.reduceLT, Nat.reduceLeDiff, Int.reduceEq, Int.reduceLT, Int.reduceLE, reduceIte, aresults, aresult, hp0, b4, b2, textsL, hf, hsl] at hx; (try (rw [guardF_if] at hx; split at hx <;> rename_i hc)))); generalize hq : aappend Tryz.prog _ _ _ _ = q at hx
  obtain ⟨xa, Ka, rfl, hacca, hga, hka, hoa⟩ := app_rows hq el97 zero2 by2 int97 (sz := 1) rfl (by omega) RAcc.nil (m := 1) rfl (afirst_one _ _ [AV.v (.int .i64 na)]) rfl (by omega) (by omega)
  clear hq
  simp only [Hp.set_g, Hp.new_g, Hp.nil, List.nil_append, List.cons_append, Nat.zero_add, Nat.reduceAdd] at hga hka hacca hoa
  have k0a : Ka.h 0 = some [AV.v (.int .i64 0), .v (.int .i64 0), .v (.int .i64 0), .v (.int .i64 0), .v (.slice none 0 0), .v (.int .i64 0), .v (.int .i64 0), .v (.slice none 0 0)] := (hka 0 (by omega) off_nil).trans rfl
  have f0a : Off 0 xa := hoa 0 (by omega) off_nil
  have g0a : (0 = Ka.g) = False := eq_false (by omega)
  have g1a : (Ka.g = 0) = False := eq_false (by omega)
  have hc := trivial; (repeat' (simp only [hc, Nat.reduceBEq, go_sem, Nat.reduceAdd, Nat.reduceMul, Nat.reduceSub, Nat.reduceEqDiff, Nat.reduceLT, Nat.reduceLeDiff, Int.reduceEq, Int.reduceLT, Int.reduceLE, reduceIte, aresults, aresult, hp0, b4, b2, textsL, hf, hsl] at hx; (try (rw [guardF_if] at hx; split at hx <;> rename_i hc)))); all_goals (subst hx; refine ⟨_, rfl, ?_⟩)
  repeat' (first | ((first | refine wSeqrF ?_ | refine wIf ?_ | refine wRegF ?_ | (refine wRet ?_; (try simp only [thenQ, blockQ]); refine ends_by ?_)); intro xx hx; have hc := trivial; (repeat' (simp only [hc, Nat.reduceBEq, go_sem, Nat.reduceAdd, Nat.reduceMul, Nat.reduceSub, Nat.reduceEqDiff, Nat.reduceLT, Nat.reduceLeDiff, Int.reduceEq, Int.reduceLT, Int.reduceLE, reduceIte, aresults, aresult, hp0, b4, b2, textsL, hf, hsl] at hx; (try (rw [guardF_if] at hx; split at hx <;> rename_i hc)))); all_goals (subst hx; first | (refine ⟨_, rfl, fun ht => ?_, fun ht => ?_⟩ <;> (try simp only [bbs] at ht)) | (refine ⟨_, rfl, ?_⟩; (try simp only [tupOf])))) | refine wSkip ?_ | (refine wExit ?_; simp only [thenQ, blockQ, reduceIte, Nat.reduceEqDiff]) | refine wSeq ?_ | refine wBlock ?_)
  refine wUnroll ?_
  by_cases hb : nb < 0
  · simp only [if_pos hb] at cnb
    repeat' (first | ((first | refine wSeqrF ?_ | refine wIf ?_ | refine wRegF ?_ | (refine wRet ?_; (try simp only [thenQ, blockQ]); refine ends_by ?_)); intro xx hx; have hc := trivial; (repeat' (simp only [hc, Nat.reduceBEq, go_sem, Nat.reduceAdd, Nat.reduceMul, Nat.reduceSub, Nat.reduceEqDiff, Nat.reduceLT, Nat.reduceLeDiff, Int.reduceEq, Int.reduceLT, Int.reduceLE, reduceIte, aresults, aresult, hp0, b4, b2, textsL, hf, hsl, cnb, k0a, g0a, g1a, Option.isSome_some] at hx; (try (rw [guardF_if] at hx; split at hx <;> rename_i hc)))); all_goals (subst hx; first | (refine ⟨_, rfl, fun ht => ?_, fun ht => ?_⟩ <;> (try simp only [bbs] at ht)) | (refine ⟨_, rfl, ?_⟩; (try simp only [tupOf])))) | refine wSkip ?_ | (refine wExit ?_; simp only [thenQ, blockQ, reduceIte, Nat.reduceEqDiff]) | refine wSeq ?_ | refine wBlock ?_)
    all_goals try (exfalso; (try simp only [bbs] at *); first | omega | exact absurd trivial (by assumption))
    all_goals first | exact ev_leaf (by first | exact dN | exact dB _ | exact dE | exact dO _) (by first | exact dN | exact dB _ | exact dE | exact dO _) (by simp [*]) (fun z hz => by simp [*] at hz) | skip
  simp only [if_neg hb] at cnb
  repeat' ((fail_if_success (first | refine wAt 20 ?_)); first | ((first | refine wSeqrF ?_ | refine wIf ?_ | refine wRegF ?_ | (refine wRet ?_; (try simp only [thenQ, blockQ]); refine ends_by ?_)); intro xx hx; have hc := trivial; (repeat' (simp only [hc, Nat.reduceBEq, go_sem, Nat.reduceAdd, Nat.reduceMul, Nat.reduceSub, Nat.reduceEqDiff, Nat.reduceLT, Nat.reduceLeDiff, Int.reduceEq, Int.reduceLT, Int.reduceLE, reduceIte, aresults, aresult, hp0, b4, b2, textsL, hf, hsl, cnb] at hx; (try (rw [guardF_if] at hx; split at hx <;> rename_i hc)))); all_goals (subst hx; first | (refine ⟨_, rfl, fun ht => ?_, fun ht => ?_⟩ <;> (try simp only [bbs] at ht)) | (refine ⟨_, rfl, ?_⟩; (try simp only [tupOf])))) | refine wSkip ?_ | (refine wExit ?_; simp only [thenQ, blockQ, reduceIte, Nat.reduceEqDiff]) | refine wSeq ?_ | refine wBlock ?_)
  all_goals try (exfalso; (try simp only [bbs] at *); first | omega | exact absurd trivial (by assumption))
  (first | refine wSeqrF ?_ | refine wRegF ?_); intro xx hx; have hc := trivial; (repeat' (simp only [hc, Nat.reduceBEq, go_sem, Nat.reduceAdd, Nat.reduceMul, Nat.reduceSub, Nat.reduceEqDiff, Nat.reduceLT, Nat.reduceLeDiff, Int.reduceEq, Int.reduceLT, Int.reduceLE, reduceIte, aresults, aresult, hp0, b4, b2, textsL, hf, hsl] at hx; (try (rw [guardF_if] at hx; split at hx <;> rename_i hc)))); generalize hq : aappend Tryz.prog _ _ _ _ = q at hx
  obtain ⟨xb, Kb, rfl, haccb, hgb, hkb, hob⟩ := app_rows hq el97 zero2 by2 int97 (sz := 1) rfl (by omega) (hacca.ext ⟨by simp only [Hp.set_g, Hp.new_g]; omega, fun b hb => by simp only [Hp.set_h, Hp.new_h]; (repeat' split) <;> first | omega | rfl⟩) (m := 1) rfl (afirst_one _ _ [AV.v (.int .i64 nb)]) rfl (by omega) (by omega)
  clear hq
  simp only [Hp.set_g, Hp.new_g, Hp.nil, List.nil_append, List.cons_append, Nat.zero_add, Nat.reduceAdd] at hgb hkb haccb hob
  have k0b : Kb.h 0 = some [AV.v (.int .i64 0), .v (.int .i64 0), .v (.int .i64 0), .v (.int .i64 0), .v (.slice none 0 0), .v (.int .i64 0), .v (.int .i64 0), .v (.slice none 0 0)] := (hkb 0 (by omega) f0a).trans (by simp only [Hp.set_h, Hp.new_h]; rw [if_neg (by omega), if_neg (by omega)]; exact k0a)
  have f0b : Off 0 xb := hob 0 (by omega) f0a
  have g0b : (0 = Kb.g) = False := eq_false (by omega)
  have g1b : (Kb.g = 0) = False := eq_false (by omega)
  obtain ⟨p, hpp, rfl, hh⟩ := own_at haccb
  have q1 : (p = Kb.g) = False := eq_false (by omega)
  have q2 : (Kb.g = p) = False := eq_false (by omega)
  have q3 : (p = 0) = False := eq_false (fun e => f0b _ _ _ (by rw [e]))
  have q4 : (0 = p) = False := eq_false (fun e => f0b _ _ _ (by rw [← e]))
  have hc := trivial; (repeat' (simp only [hc, Nat.reduceBEq, go_sem, Nat.reduceAdd, Nat.reduceMul, Nat.reduceSub, Nat.reduceEqDiff, Nat.reduceLT, Nat.reduceLeDiff, Int.reduceEq, Int.reduceLT, Int.reduceLE, reduceIte, aresults, aresult, hp0, b4, b2, textsL, hf, hsl] at hx; (try (rw [guardF_if] at hx; split at hx <;> rename_i hc)))); all_goals (subst hx; refine ⟨_, rfl, ?_⟩)
  repeat' (first | ((first | refine wSeqrF ?_ | refine wIf ?_ | refine wRegF ?_ | (refine wRet ?_; (try simp only [thenQ, blockQ]); refine ends_by ?_)); intro xx hx; have hc := trivial; (repeat' (simp only [hc, Nat.reduceBEq, go_sem, Nat.reduceAdd, Nat.reduceMul, Nat.reduceSub, Nat.reduceEqDiff, Nat.reduceLT, Nat.reduceLeDiff, Int.reduceEq, Int.reduceLT, Int.reduceLE, reduceIte, aresults, aresult, hp0, b4, b2, textsL, hf, hsl, hh, q1, q2, q3, q4, k0b, g0b, g1b, Option.isSome_some] at hx; (try (rw [guardF_if] at hx; split at hx <;> rename_i hc)))); all_goals (subst hx; first | (refine ⟨_, rfl, fun ht => ?_, fun ht => ?_⟩ <;> (try simp only [bbs] at ht)) | (refine ⟨_, rfl, ?_⟩; (try simp only [tupOf])))) | refine wSkip ?_ | (refine wExit ?_; simp only [thenQ, blockQ, reduceIte, Nat.reduceEqDiff]) | refine wSeq ?_ | refine wBlock ?_)
  refine wUnroll ?_
  rcases ouc with _ | ⟨d, _ | _⟩
  · have r1 := rnc rfl
    subst r1
    repeat' (first | ((first | refine wSeqrF ?_ | refine wIf ?_ | refine wRegF ?_ | (refine wRet ?_; (try simp only [thenQ, blockQ]); refine ends_by ?_)); intro xx hx; have hc := trivial; (repeat' (simp only [hc, Nat.reduceBEq, go_sem, Nat.reduceAdd, Nat.reduceMul, Nat.reduceSub, Nat.reduceEqDiff, Nat.reduceLT, Nat.reduceLeDiff, Int.reduceEq, Int.reduceLT, Int.reduceLE, reduceIte, aresults, aresult, hp0, b4, b2, textsL, hf, hsl, cuc, hh, q1, q2, q3, q4, k0b, g0b, g1b, Option.isSome_some] at hx; (try (rw [guardF_if] at hx; split at hx <;> rename_i hc)))); all_goals (subst hx; first | (refine ⟨_, rfl, fun ht => ?_, fun ht => ?_⟩ <;> (try simp only [bbs] at ht)) | (refine ⟨_, rfl, ?_⟩; (try simp only [tupOf])))) | refine wSkip ?_ | (refine wExit ?_; simp only [thenQ, blockQ, reduceIte, Nat.reduceEqDiff]) | refine wSeq ?_ | refine wBlock ?_)
    all_goals try (exfalso; (try simp only [bbs] at *); first | omega | exact absurd trivial (by assumption))
    all_goals first | exact ev_leaf (by first | exact dN | exact dB _ | exact dE | exact dO _) (by first | exact dN | exact dB _ | exact dE | exact dO _) (by simp [*]) (fun z hz => by simp [*] at hz) | skip
  · have r1 := rvc d rfl
    subst r1
    repeat' (first | ((first | refine wSeqrF ?_ | refine wIf ?_ | refine wRegF ?_ | (refine wRet ?_; (try simp only [thenQ, blockQ]); refine ends_by ?_)); intro xx hx; have hc := trivial; (repeat' (simp only [hc, Nat.reduceBEq, go_sem, Nat.reduceAdd, Nat.reduceMul, Nat.reduceSub, Nat.reduceEqDiff, Nat.reduceLT, Nat.reduceLeDiff, Int.reduceEq, Int.reduceLT, Int.reduceLE, reduceIte, aresults, aresult, hp0, b4, b2, textsL, hf, hsl, cuc, hh, q1, q2, q3, q4, k0b, g0b, g1b, Option.isSome_some] at hx; (try (rw [guardF_if] at hx; split at hx <;> rename_i hc)))); all_goals (subst hx; first | (refine ⟨_, rfl, fun ht => ?_, fun ht => ?_⟩ <;> (try simp only [bbs] at ht)) | (refine ⟨_, rfl, ?_⟩; (try simp only [tupOf])))) | refine wSkip ?_ | (refine wExit ?_; simp only [thenQ, blockQ, reduceIte, Nat.reduceEqDiff]) | refine wSeq ?_ | refine wBlock ?_)
    all_goals try (exfalso; (try simp only [bbs] at *); first | omega | exact absurd trivial (by assumption))
    all_goals first | exact ev_leaf (by first | exact dN | exact dB _ | exact dE | exact dO _) (by first | exact dN | exact dB _ | exact dE | exact dO _) (by simp [*]) (fun z hz => by simp [*] at hz) | skip
  have r1 := ruc d rfl
  subst r1
  repeat' (first | ((first | refine wSeqrF ?_ | refine wIf ?_ | refine wRegF ?_ | (refine wRet ?_; (try simp only [thenQ, blockQ]); refine ends_by ?_)); intro xx hx; have hc := trivial; (repeat' (simp only [hc, Nat.reduceBEq, go_sem, Nat.reduceAdd, Nat.reduceMul, Nat.reduceSub, Nat.reduceEqDiff, Nat.reduceLT, Nat.reduceLeDiff, Int.reduceEq, Int.reduceLT, Int.reduceLE, reduceIte, aresults, aresult, hp0, b4, b2, textsL, hf, hsl, hh, q1, q2, q3, q4, k0b, g0b, g1b, Option.isSome_some, cuc] at hx; (try (rw [guardF_if] at hx; split at hx <;> rename_i hc)))); all_goals (subst hx; first | (refine ⟨_, rfl, fun ht => ?_, fun ht => ?_⟩ <;> (try simp only [bbs] at ht)) | (refine ⟨_, rfl, ?_⟩; (try simp only [tupOf])))) | refine wSkip ?_ | (refine wExit ?_; simp only [thenQ, blockQ, reduceIte, Nat.reduceEqDiff]) | refine wSeq ?_ | refine wBlock ?_)
  all_goals try (exfalso; (try simp only [bbs] at *); first | omega | exact absurd trivial (by assumption))
  refine wUnroll ?_
  repeat' ((fail_if_success (first | refine wAt 38 ?_)); first | ((first | refine wSeqrF ?_ | refine wIf ?_ | refine wRegF ?_ | (refine wRet ?_; (try simp only [thenQ, blockQ]); refine ends_by ?_)); intro xx hx; have hc := trivial; (repeat' (simp only [hc, Nat.reduceBEq, go_sem, Nat.reduceAdd, Nat.reduceMul, Nat.reduceSub, Nat.reduceEqDiff, Nat.reduceLT, Nat.reduceLeDiff, Int.reduceEq, Int.reduceLT, Int.reduceLE, reduceIte, aresults, aresult, hp0, b4, b2, textsL, hf, hsl, hh, q1, q2, q3, q4, k0b, g0b, g1b, Option.isSome_some, cuc] at hx; (try (rw [guardF_if] at hx; split at hx <;> rename_i hc)))); all_goals (subst hx; first | (refine ⟨_, rfl, fun ht => ?_, fun ht => ?_⟩ <;> (try simp only [bbs] at ht)) | (refine ⟨_, rfl, ?_⟩; (try simp only [tupOf])))) | refine wSkip ?_ | (refine wExit ?_; simp only [thenQ, blockQ, reduceIte, Nat.reduceEqDiff]) | refine wSeq ?_ | refine wBlock ?_)
  all_goals try (exfalso; (try simp only [bbs] at *); first | omega | exact absurd trivial (by assumption))
  refine wRegK (Hp.one p [AV.v (.int .i64 na), AV.v (.int .i64 nb)]) (hExt_one (by simp only [Hp.set_h, Hp.new_h, q1, q2, q3, q4, if_false]; exact hh)) (fun xx hx => ?_)
  have hc := trivial; (repeat' (simp only [hc, Nat.reduceBEq, go_sem, Nat.reduceAdd, Nat.reduceMul, Nat.reduceSub, Nat.reduceEqDiff, Nat.reduceLT, Nat.reduceLeDiff, Int.reduceEq, Int.reduceLT, Int.reduceLE, reduceIte, aresults, aresult, hp0, b4, b2, textsL, hf, hsl, hh, q1, q2, q3, q4, k0b, g0b, g1b, Option.isSome_some, cuc] at hx; (try ((first | rw [guardL_if] at hx | rw [guardF_if] at hx); split at hx <;> rename_i hc)))); all_goals (subst hx; refine ⟨_, rfl, ?_⟩)
  repeat' (first | ((first | refine wSeqrF ?_ | refine wIf ?_ | refine wRegF ?_ | (refine wRet ?_; (try simp only [thenQ, blockQ]); refine ends_by ?_)); intro xx hx; have hc := trivial; (repeat' (simp only [hc, Nat.reduceBEq, go_sem, Nat.reduceAdd, Nat.reduceMul, Nat.reduceSub, Nat.reduceEqDiff, Nat.reduceLT, Nat.reduceLeDiff, Int.reduceEq, Int.reduceLT, Int.reduceLE, reduceIte, aresults, aresult, hp0, b4, b2, textsL, hf, hsl, hh, q1, q2, q3, q4, k0b, g0b, g1b, Option.isSome_some, cuc] at hx; (try (rw [guardF_if] at hx; split at hx <;> rename_i hc)))); all_goals (subst hx; first | (refine ⟨_, rfl, fun ht => ?_, fun ht => ?_⟩ <;> (try simp only [bbs] at ht)) | (refine ⟨_, rfl, ?_⟩; (try simp only [tupOf])))) | refine wSkip ?_ | (refine wExit ?_; simp only [thenQ, blockQ, reduceIte, Nat.reduceEqDiff]) | refine wSeq ?_ | refine wBlock ?_)
  all_goals try (exfalso; (try simp only [bbs] at *); first | omega | exact absurd trivial (by assumption))
  (try rw [if_neg ha]); (try rw [if_neg (by omega)]); (try rw [if_pos (by omega)]); (try simp only [Option.map_some])
  all_goals first | exact ev_leaf (by first | exact dN | exact dB _ | exact dE | exact dO _) (by first | exact dN | exact dB _ | exact dE | exact dO _) rfl (fun z hz => by first | (cases hz; rfl) | cases hz)
theorem p_parsed_use (w a b : ByteArray) (hw : w.data.toList = [117, 115, 101]) (hz : ∀ z ∈ [w, a, b], z.size ≤ 1048576) : ∃ v cl, EvQ (evS [w, a, b]) v ∧ pure Tryz.prog cfg0 32 Tryz.f32 [textsL [w, a, b]] = some (v, cl) := by
  refine pure_ex (rs := [.cell 2 26, .tmp 3]) rfl rfl ?_
  have hp0 : ∀ b, cfg0.pol 32 b = (if b = 111 then 3 else if b = 112 then 3 else if b = 114 then 3 else if b = 115 then 3 else if b = 116 then 3 else if b = 135 then 3 else if b = 136 then 3 else if b = 1000000 then 2 else 0) := fun b => rfl
  have hf := c_form_use w hw
  have T : textsL [w, a, b] = .lst false [[.v (.string w)], [.v (.string a)], [.v (.string b)]] := rfl
  have hsl := slice_rest (c := [.v (.string w)]) (xs := [[.v (.string a)], [.v (.string b)]]) rfl
  have e_tick : (w.data.toList = [116, 105, 99, 107]) = False := eq_false (by rw [hw]; decide)
  have e_stop : (w.data.toList = [115, 116, 111, 112]) = False := eq_false (by rw [hw]; decide)
  have e_come : (w.data.toList = [99, 111, 109, 101]) = False := eq_false (by rw [hw]; decide)
  have e_close : (w.data.toList = [108, 111, 115, 101]) = False := eq_false (by rw [hw]; decide)
  have e_copy : (w.data.toList = [99, 111, 112, 121]) = False := eq_false (by rw [hw]; decide)
  have e_turn : (w.data.toList = [116, 117, 114, 110]) = False := eq_false (by rw [hw]; decide)
  have e_push : (w.data.toList = [112, 117, 115, 104]) = False := eq_false (by rw [hw]; decide)
  have e_install : (w.data.toList = [105, 110, 115, 116, 97, 108, 108]) = False := eq_false (by rw [hw]; decide)
  have e_use : (w.data.toList = [117, 115, 101]) = True := eq_true hw
  have e_remove : (w.data.toList = [114, 101, 109, 111, 118, 101]) = False := eq_false (by rw [hw]; decide)
  have hev : evS [w, a, b] = evS [w, a, b] := rfl
  conv at hev => rhs; simp only [evS, evK, key3, e_tick, e_stop, e_come, e_close, e_copy, e_turn, e_push, e_install, e_use, e_remove, if_true, if_false]
  rw [hev]
  clear hev
  unfold num
  have cna := c_iNumberOf a (hz a (by simp))
  unfold numC numV at cna
  generalize numOf 7 a.data.toList = na at *
  have cnb := c_iNumberOf b (hz b (by simp))
  unfold numC numV at cnb
  generalize numOf 7 b.data.toList = nb at *
  repeat' (first | ((first | refine wSeqrF ?_ | refine wIf ?_ | refine wRegF ?_ | (refine wRet ?_; (try simp only [thenQ, blockQ]); refine ends_by ?_)); intro xx hx; have hc := trivial; (repeat' (simp only [hc, Nat.reduceBEq, go_sem, Nat.reduceAdd, Nat.reduceMul, Nat.reduceSub, Nat.reduceEqDiff, Nat.reduceLT, Nat.reduceLeDiff, Int.reduceEq, Int.reduceLT, Int.reduceLE, reduceIte, aresults, aresult, hp0, b4, b2, textsL, hf, hsl] at hx; (try (rw [guardF_if] at hx; split at hx <;> rename_i hc)))); all_goals (subst hx; first | (refine ⟨_, rfl, fun ht => ?_, fun ht => ?_⟩ <;> (try simp only [bbs] at ht)) | (refine ⟨_, rfl, ?_⟩; (try simp only [tupOf])))) | refine wSkip ?_ | (refine wExit ?_; simp only [thenQ, blockQ, reduceIte, Nat.reduceEqDiff]) | refine wSeq ?_ | refine wBlock ?_)
  all_goals try (exfalso; (try simp only [bbs] at *); first | omega | exact absurd trivial (by assumption))
  refine wUnroll ?_
  by_cases ha : na < 0
  · simp only [if_pos ha] at cna
    repeat' (first | ((first | refine wSeqrF ?_ | refine wIf ?_ | refine wRegF ?_ | (refine wRet ?_; (try simp only [thenQ, blockQ]); refine ends_by ?_)); intro xx hx; have hc := trivial; (repeat' (simp only [hc, Nat.reduceBEq, go_sem, Nat.reduceAdd, Nat.reduceMul, Nat.reduceSub, Nat.reduceEqDiff, Nat.reduceLT, Nat.reduceLeDiff, Int.reduceEq, Int.reduceLT, Int.reduceLE, reduceIte, aresults, aresult, hp0, b4, b2, textsL, hf, hsl, cna] at hx; (try (rw [guardF_if] at hx; split at hx <;> rename_i hc)))); all_goals (subst hx; first | (refine ⟨_, rfl, fun ht => ?_, fun ht => ?_⟩ <;> (try simp only [bbs] at ht)) | (refine ⟨_, rfl, ?_⟩; (try simp only [tupOf])))) | refine wSkip ?_ | (refine wExit ?_; simp only [thenQ, blockQ, reduceIte, Nat.reduceEqDiff]) | refine wSeq ?_ | refine wBlock ?_)
    all_goals try (exfalso; (try simp only [bbs] at *); first | omega | exact absurd trivial (by assumption))
    all_goals first | exact ev_leaf (by first | exact dN | exact dB _ | exact dE | exact dO _) (by first | exact dN | exact dB _ | exact dE | exact dO _) (by simp [*]) (fun z hz => by simp [*] at hz) | skip
  simp only [if_neg ha] at cna
  repeat' ((fail_if_success (first | refine wAt 20 ?_)); first | ((first | refine wSeqrF ?_ | refine wIf ?_ | refine wRegF ?_ | (refine wRet ?_; (try simp only [thenQ, blockQ]); refine ends_by ?_)); intro xx hx; have hc := trivial; (repeat' (simp only [hc, Nat.reduceBEq, go_sem, Nat.reduceAdd, Nat.reduceMul, Nat.reduceSub, Nat.reduceEqDiff, Nat.reduceLT, Nat.reduceLeDiff, Int.reduceEq, Int.reduceLT, Int.reduceLE, reduceIte, aresults, aresult, hp0, b4, b2, textsL, hf, hsl, cna] at hx; (try (rw [guardF_if] at hx; split at hx <;> rename_i hc)))); all_goals (subst hx; first | (refine ⟨_, rfl, fun ht => ?_, fun ht => ?_⟩ <;> (try simp only [bbs] at ht)) | (refine ⟨_, rfl, ?_⟩; (try simp only [tupOf])))) | refine wSkip ?_ | (refine wExit ?_; simp only [thenQ, blockQ, reduceIte, Nat.reduceEqDiff]) | refine wSeq ?_ | refine wBlock ?_)
  all_goals try (exfalso; (try simp only [bbs] at *); first | omega | exact absurd trivial (by assumption))
  (first | refine wSeqrF ?_ | refine wRegF ?_); intro xx hx; have hc := trivial; (repeat' (simp only [hc, Nat.reduceBEq, go_sem, Nat.reduceAdd, Nat.reduceMul, Nat.reduceSub, Nat.reduceEqDiff, Nat.reduceLT, Nat.reduceLeDiff, Int.reduceEq, Int.reduceLT, Int.reduceLE, reduceIte, aresults, aresult, hp0, b4, b2, textsL, hf, hsl] at hx; (try (rw [guardF_if] at hx; split at hx <;> rename_i hc)))); generalize hq : aappend Tryz.prog _ _ _ _ = q at hx
  obtain ⟨xa, Ka, rfl, hacca, hga, hka, hoa⟩ := app_rows hq el97 zero2 by2 int97 (sz := 1) rfl (by omega) RAcc.nil (m := 1) rfl (afirst_one _ _ [AV.v (.int .i64 na)]) rfl (by omega) (by omega)
  clear hq
  simp only [Hp.set_g, Hp.new_g, Hp.nil, List.nil_append, List.cons_append, Nat.zero_add, Nat.reduceAdd] at hga hka hacca hoa
  have k0a : Ka.h 0 = some [AV.v (.int .i64 0), .v (.int .i64 0), .v (.int .i64 0), .v (.int .i64 0), .v (.slice none 0 0), .v (.int .i64 0), .v (.int .i64 0), .v (.slice none 0 0)] := (hka 0 (by omega) off_nil).trans rfl
  have f0a : Off 0 xa := hoa 0 (by omega) off_nil
  have g0a : (0 = Ka.g) = False := eq_false (by omega)
  have g1a : (Ka.g = 0) = False := eq_false (by omega)
  have hc := trivial; (repeat' (simp only [hc, Nat.reduceBEq, go_sem, Nat.reduceAdd, Nat.reduceMul, Nat.reduceSub, Nat.reduceEqDiff, Nat.reduceLT, Nat.reduceLeDiff, Int.reduceEq, Int.reduceLT, Int.reduceLE, reduceIte, aresults, aresult, hp0, b4, b2, textsL, hf, hsl] at hx; (try (rw [guardF_if] at hx; split at hx <;> rename_i hc)))); all_goals (subst hx; refine ⟨_, rfl, ?_⟩)
  repeat' (first | ((first | refine wSeqrF ?_ | refine wIf ?_ | refine wRegF ?_ | (refine wRet ?_; (try simp only [thenQ, blockQ]); refine ends_by ?_)); intro xx hx; have hc := trivial; (repeat' (simp only [hc, Nat.reduceBEq, go_sem, Nat.reduceAdd, Nat.reduceMul, Nat.reduceSub, Nat.reduceEqDiff, Nat.reduceLT, Nat.reduceLeDiff, Int.reduceEq, Int.reduceLT, Int.reduceLE, reduceIte, aresults, aresult, hp0, b4, b2, textsL, hf, hsl] at hx; (try (rw [guardF_if] at hx; split at hx <;> rename_i hc)))); all_goals (subst hx; first | (refine ⟨_, rfl, fun ht => ?_, fun ht => ?_⟩ <;> (try simp only [bbs] at ht)) | (refine ⟨_, rfl, ?_⟩; (try simp only [tupOf])))) | refine wSkip ?_ | (refine wExit ?_; simp only [thenQ, blockQ, reduceIte, Nat.reduceEqDiff]) | refine wSeq ?_ | refine wBlock ?_)
  refine wUnroll ?_
  by_cases hb : nb < 0
  · simp only [if_pos hb] at cnb
    repeat' (first | ((first | refine wSeqrF ?_ | refine wIf ?_ | refine wRegF ?_ | (refine wRet ?_; (try simp only [thenQ, blockQ]); refine ends_by ?_)); intro xx hx; have hc := trivial; (repeat' (simp only [hc, Nat.reduceBEq, go_sem, Nat.reduceAdd, Nat.reduceMul, Nat.reduceSub, Nat.reduceEqDiff, Nat.reduceLT, Nat.reduceLeDiff, Int.reduceEq, Int.reduceLT, Int.reduceLE, reduceIte, aresults, aresult, hp0, b4, b2, textsL, hf, hsl, cnb, k0a, g0a, g1a, Option.isSome_some] at hx; (try (rw [guardF_if] at hx; split at hx <;> rename_i hc)))); all_goals (subst hx; first | (refine ⟨_, rfl, fun ht => ?_, fun ht => ?_⟩ <;> (try simp only [bbs] at ht)) | (refine ⟨_, rfl, ?_⟩; (try simp only [tupOf])))) | refine wSkip ?_ | (refine wExit ?_; simp only [thenQ, blockQ, reduceIte, Nat.reduceEqDiff]) | refine wSeq ?_ | refine wBlock ?_)
    all_goals try (exfalso; (try simp only [bbs] at *); first | omega | exact absurd trivial (by assumption))
    all_goals first | exact ev_leaf (by first | exact dN | exact dB _ | exact dE | exact dO _) (by first | exact dN | exact dB _ | exact dE | exact dO _) (by simp [*]) (fun z hz => by simp [*] at hz) | skip
  simp only [if_neg hb] at cnb
  repeat' ((fail_if_success (first | refine wAt 20 ?_)); first | ((first | refine wSeqrF ?_ | refine wIf ?_ | refine wRegF ?_ | (refine wRet ?_; (try simp only [thenQ, blockQ]); refine ends_by ?_)); intro xx hx; have hc := trivial; (repeat' (simp only [hc, Nat.reduceBEq, go_sem, Nat.reduceAdd, Nat.reduceMul, Nat.reduceSub, Nat.reduceEqDiff, Nat.reduceLT, Nat.reduceLeDiff, Int.reduceEq, Int.reduceLT, Int.reduceLE, reduceIte, aresults, aresult, hp0, b4, b2, textsL, hf, hsl, cnb] at hx; (try (rw [guardF_if] at hx; split at hx <;> rename_i hc)))); all_goals (subst hx; first | (refine ⟨_, rfl, fun ht => ?_, fun ht => ?_⟩ <;> (try simp only [bbs] at ht)) | (refine ⟨_, rfl, ?_⟩; (try simp only [tupOf])))) | refine wSkip ?_ | (refine wExit ?_; simp only [thenQ, blockQ, reduceIte, Nat.reduceEqDiff]) | refine wSeq ?_ | refine wBlock ?_)
  all_goals try (exfalso; (try simp only [bbs] at *); first | omega | exact absurd trivial (by assumption))
  (first | refine wSeqrF ?_ | refine wRegF ?_); intro xx hx; have hc := trivial; (repeat' (simp only [hc, Nat.reduceBEq, go_sem, Nat.reduceAdd, Nat.reduceMul, Nat.reduceSub, Nat.reduceEqDiff, Nat.reduceLT, Nat.reduceLeDiff, Int.reduceEq, Int.reduceLT, Int.reduceLE, reduceIte, aresults, aresult, hp0, b4, b2, textsL, hf, hsl] at hx; (try (rw [guardF_if] at hx; split at hx <;> rename_i hc)))); generalize hq : aappend Tryz.prog _ _ _ _ = q at hx
  obtain ⟨xb, Kb, rfl, haccb, hgb, hkb, hob⟩ := app_rows hq el97 zero2 by2 int97 (sz := 1) rfl (by omega) (hacca.ext ⟨by simp only [Hp.set_g, Hp.new_g]; omega, fun b hb => by simp only [Hp.set_h, Hp.new_h]; (repeat' split) <;> first | omega | rfl⟩) (m := 1) rfl (afirst_one _ _ [AV.v (.int .i64 nb)]) rfl (by omega) (by omega)
  clear hq
  simp only [Hp.set_g, Hp.new_g, Hp.nil, List.nil_append, List.cons_append, Nat.zero_add, Nat.reduceAdd] at hgb hkb haccb hob
  have k0b : Kb.h 0 = some [AV.v (.int .i64 0), .v (.int .i64 0), .v (.int .i64 0), .v (.int .i64 0), .v (.slice none 0 0), .v (.int .i64 0), .v (.int .i64 0), .v (.slice none 0 0)] := (hkb 0 (by omega) f0a).trans (by simp only [Hp.set_h, Hp.new_h]; rw [if_neg (by omega), if_neg (by omega)]; exact k0a)
  have f0b : Off 0 xb := hob 0 (by omega) f0a
  have g0b : (0 = Kb.g) = False := eq_false (by omega)
  have g1b : (Kb.g = 0) = False := eq_false (by omega)
  obtain ⟨p, hpp, rfl, hh⟩ := own_at haccb
  have q1 : (p = Kb.g) = False := eq_false (by omega)
  have q2 : (Kb.g = p) = False := eq_false (by omega)
  have q3 : (p = 0) = False := eq_false (fun e => f0b _ _ _ (by rw [e]))
  have q4 : (0 = p) = False := eq_false (fun e => f0b _ _ _ (by rw [← e]))
  have hc := trivial; (repeat' (simp only [hc, Nat.reduceBEq, go_sem, Nat.reduceAdd, Nat.reduceMul, Nat.reduceSub, Nat.reduceEqDiff, Nat.reduceLT, Nat.reduceLeDiff, Int.reduceEq, Int.reduceLT, Int.reduceLE, reduceIte, aresults, aresult, hp0, b4, b2, textsL, hf, hsl] at hx; (try (rw [guardF_if] at hx; split at hx <;> rename_i hc)))); all_goals (subst hx; refine ⟨_, rfl, ?_⟩)
  repeat' (first | ((first | refine wSeqrF ?_ | refine wIf ?_ | refine wRegF ?_ | (refine wRet ?_; (try simp only [thenQ, blockQ]); refine ends_by ?_)); intro xx hx; have hc := trivial; (repeat' (simp only [hc, Nat.reduceBEq, go_sem, Nat.reduceAdd, Nat.reduceMul, Nat.reduceSub, Nat.reduceEqDiff, Nat.reduceLT, Nat.reduceLeDiff, Int.reduceEq, Int.reduceLT, Int.reduceLE, reduceIte, aresults, aresult, hp0, b4, b2, textsL, hf, hsl, hh, q1, q2, q3, q4, k0b, g0b, g1b, Option.isSome_some] at hx; (try (rw [guardF_if] at hx; split at hx <;> rename_i hc)))); all_goals (subst hx; first | (refine ⟨_, rfl, fun ht => ?_, fun ht => ?_⟩ <;> (try simp only [bbs] at ht)) | (refine ⟨_, rfl, ?_⟩; (try simp only [tupOf])))) | refine wSkip ?_ | (refine wExit ?_; simp only [thenQ, blockQ, reduceIte, Nat.reduceEqDiff]) | refine wSeq ?_ | refine wBlock ?_)
  all_goals try (exfalso; (try simp only [bbs] at *); first | omega | exact absurd trivial (by assumption))
  refine wUnroll ?_
  repeat' ((fail_if_success (first | refine wAt 38 ?_)); first | ((first | refine wSeqrF ?_ | refine wIf ?_ | refine wRegF ?_ | (refine wRet ?_; (try simp only [thenQ, blockQ]); refine ends_by ?_)); intro xx hx; have hc := trivial; (repeat' (simp only [hc, Nat.reduceBEq, go_sem, Nat.reduceAdd, Nat.reduceMul, Nat.reduceSub, Nat.reduceEqDiff, Nat.reduceLT, Nat.reduceLeDiff, Int.reduceEq, Int.reduceLT, Int.reduceLE, reduceIte, aresults, aresult, hp0, b4, b2, textsL, hf, hsl, hh, q1, q2, q3, q4, k0b, g0b, g1b, Option.isSome_some] at hx; (try (rw [guardF_if] at hx; split at hx <;> rename_i hc)))); all_goals (subst hx; first | (refine ⟨_, rfl, fun ht => ?_, fun ht => ?_⟩ <;> (try simp only [bbs] at ht)) | (refine ⟨_, rfl, ?_⟩; (try simp only [tupOf])))) | refine wSkip ?_ | (refine wExit ?_; simp only [thenQ, blockQ, reduceIte, Nat.reduceEqDiff]) | refine wSeq ?_ | refine wBlock ?_)
  all_goals try (exfalso; (try simp only [bbs] at *); first | omega | exact absurd trivial (by assumption))
  refine wRegK (Hp.one p [AV.v (.int .i64 na), AV.v (.int .i64 nb)]) (hExt_one (by simp only [Hp.set_h, Hp.new_h, q1, q2, q3, q4, if_false]; exact hh)) (fun xx hx => ?_)
  have hc := trivial; (repeat' (simp only [hc, Nat.reduceBEq, go_sem, Nat.reduceAdd, Nat.reduceMul, Nat.reduceSub, Nat.reduceEqDiff, Nat.reduceLT, Nat.reduceLeDiff, Int.reduceEq, Int.reduceLT, Int.reduceLE, reduceIte, aresults, aresult, hp0, b4, b2, textsL, hf, hsl, hh, q1, q2, q3, q4, k0b, g0b, g1b, Option.isSome_some] at hx; (try ((first | rw [guardL_if] at hx | rw [guardF_if] at hx); split at hx <;> rename_i hc)))); all_goals (subst hx; refine ⟨_, rfl, ?_⟩)
  repeat' (first | ((first | refine wSeqrF ?_ | refine wIf ?_ | refine wRegF ?_ | (refine wRet ?_; (try simp only [thenQ, blockQ]); refine ends_by ?_)); intro xx hx; have hc := trivial; (repeat' (simp only [hc, Nat.reduceBEq, go_sem, Nat.reduceAdd, Nat.reduceMul, Nat.reduceSub, Nat.reduceEqDiff, Nat.reduceLT, Nat.reduceLeDiff, Int.reduceEq, Int.reduceLT, Int.reduceLE, reduceIte, aresults, aresult, hp0, b4, b2, textsL, hf, hsl, hh, q1, q2, q3, q4, k0b, g0b, g1b, Option.isSome_some] at hx; (try (rw [guardF_if] at hx; split at hx <;> rename_i hc)))); all_goals (subst hx; first | (refine ⟨_, rfl, fun ht => ?_, fun ht => ?_⟩ <;> (try simp only [bbs] at ht)) | (refine ⟨_, rfl, ?_⟩; (try simp only [tupOf])))) | refine wSkip ?_ | (refine wExit ?_; simp only [thenQ, blockQ, reduceIte, Nat.reduceEqDiff]) | refine wSeq ?_ | refine wBlock ?_)
  all_goals try (exfalso; (try simp only [bbs] at *); first | omega | exact absurd trivial (by assumption))
  (try rw [if_neg ha]); (try rw [if_neg (by omega)]); (try rw [if_pos (by omega)]); (try simp only [Option.map_some])
  all_goals first | exact ev_leaf (by first | exact dN | exact dB _ | exact dE | exact dO _) (by first | exact dN | exact dB _ | exact dE | exact dO _) rfl (fun z hz => by first | (cases hz; rfl) | cases hz)
theorem p_parsed_remove (w a b : ByteArray) (hw : w.data.toList = [114, 101, 109, 111, 118, 101]) (hz : ∀ z ∈ [w, a, b], z.size ≤ 1048576) : ∃ v cl, EvQ (evS [w, a, b]) v ∧ pure Tryz.prog cfg0 32 Tryz.f32 [textsL [w, a, b]] = some (v, cl) := by
  refine pure_ex (rs := [.cell 2 26, .tmp 3]) rfl rfl ?_
  have hp0 : ∀ b, cfg0.pol 32 b = (if b = 111 then 3 else if b = 112 then 3 else if b = 114 then 3 else if b = 115 then 3 else if b = 116 then 3 else if b = 135 then 3 else if b = 136 then 3 else if b = 1000000 then 2 else 0) := fun b => rfl
  have hf := c_form_remove w hw
  have T : textsL [w, a, b] = .lst false [[.v (.string w)], [.v (.string a)], [.v (.string b)]] := rfl
  have hsl := slice_rest (c := [.v (.string w)]) (xs := [[.v (.string a)], [.v (.string b)]]) rfl
  have e_tick : (w.data.toList = [116, 105, 99, 107]) = False := eq_false (by rw [hw]; decide)
  have e_stop : (w.data.toList = [115, 116, 111, 112]) = False := eq_false (by rw [hw]; decide)
  have e_come : (w.data.toList = [99, 111, 109, 101]) = False := eq_false (by rw [hw]; decide)
  have e_close : (w.data.toList = [108, 111, 115, 101]) = False := eq_false (by rw [hw]; decide)
  have e_copy : (w.data.toList = [99, 111, 112, 121]) = False := eq_false (by rw [hw]; decide)
  have e_turn : (w.data.toList = [116, 117, 114, 110]) = False := eq_false (by rw [hw]; decide)
  have e_push : (w.data.toList = [112, 117, 115, 104]) = False := eq_false (by rw [hw]; decide)
  have e_install : (w.data.toList = [105, 110, 115, 116, 97, 108, 108]) = False := eq_false (by rw [hw]; decide)
  have e_use : (w.data.toList = [117, 115, 101]) = False := eq_false (by rw [hw]; decide)
  have e_remove : (w.data.toList = [114, 101, 109, 111, 118, 101]) = True := eq_true hw
  have hev : evS [w, a, b] = evS [w, a, b] := rfl
  conv at hev => rhs; simp only [evS, evK, key3, e_tick, e_stop, e_come, e_close, e_copy, e_turn, e_push, e_install, e_use, e_remove, if_true, if_false]
  rw [hev]
  clear hev
  unfold num
  have cna := c_iNumberOf a (hz a (by simp))
  unfold numC numV at cna
  generalize numOf 7 a.data.toList = na at *
  have cnb := c_iNumberOf b (hz b (by simp))
  unfold numC numV at cnb
  generalize numOf 7 b.data.toList = nb at *
  repeat' (first | ((first | refine wSeqrF ?_ | refine wIf ?_ | refine wRegF ?_ | (refine wRet ?_; (try simp only [thenQ, blockQ]); refine ends_by ?_)); intro xx hx; have hc := trivial; (repeat' (simp only [hc, Nat.reduceBEq, go_sem, Nat.reduceAdd, Nat.reduceMul, Nat.reduceSub, Nat.reduceEqDiff, Nat.reduceLT, Nat.reduceLeDiff, Int.reduceEq, Int.reduceLT, Int.reduceLE, reduceIte, aresults, aresult, hp0, b4, b2, textsL, hf, hsl] at hx; (try (rw [guardF_if] at hx; split at hx <;> rename_i hc)))); all_goals (subst hx; first | (refine ⟨_, rfl, fun ht => ?_, fun ht => ?_⟩ <;> (try simp only [bbs] at ht)) | (refine ⟨_, rfl, ?_⟩; (try simp only [tupOf])))) | refine wSkip ?_ | (refine wExit ?_; simp only [thenQ, blockQ, reduceIte, Nat.reduceEqDiff]) | refine wSeq ?_ | refine wBlock ?_)
  all_goals try (exfalso; (try simp only [bbs] at *); first | omega | exact absurd trivial (by assumption))
  refine wUnroll ?_
  by_cases ha : na < 0
  · simp only [if_pos ha] at cna
    repeat' (first | ((first | refine wSeqrF ?_ | refine wIf ?_ | refine wRegF ?_ | (refine wRet ?_; (try simp only [thenQ, blockQ]); refine ends_by ?_)); intro xx hx; have hc := trivial; (repeat' (simp only [hc, Nat.reduceBEq, go_sem, Nat.reduceAdd, Nat.reduceMul, Nat.reduceSub, Nat.reduceEqDiff, Nat.reduceLT, Nat.reduceLeDiff, Int.reduceEq, Int.reduceLT, Int.reduceLE, reduceIte, aresults, aresult, hp0, b4, b2, textsL, hf, hsl, cna] at hx; (try (rw [guardF_if] at hx; split at hx <;> rename_i hc)))); all_goals (subst hx; first | (refine ⟨_, rfl, fun ht => ?_, fun ht => ?_⟩ <;> (try simp only [bbs] at ht)) | (refine ⟨_, rfl, ?_⟩; (try simp only [tupOf])))) | refine wSkip ?_ | (refine wExit ?_; simp only [thenQ, blockQ, reduceIte, Nat.reduceEqDiff]) | refine wSeq ?_ | refine wBlock ?_)
    all_goals try (exfalso; (try simp only [bbs] at *); first | omega | exact absurd trivial (by assumption))
    all_goals first | exact ev_leaf (by first | exact dN | exact dB _ | exact dE | exact dO _) (by first | exact dN | exact dB _ | exact dE | exact dO _) (by simp [*]) (fun z hz => by simp [*] at hz) | skip
  simp only [if_neg ha] at cna
  repeat' ((fail_if_success (first | refine wAt 20 ?_)); first | ((first | refine wSeqrF ?_ | refine wIf ?_ | refine wRegF ?_ | (refine wRet ?_; (try simp only [thenQ, blockQ]); refine ends_by ?_)); intro xx hx; have hc := trivial; (repeat' (simp only [hc, Nat.reduceBEq, go_sem, Nat.reduceAdd, Nat.reduceMul, Nat.reduceSub, Nat.reduceEqDiff, Nat.reduceLT, Nat.reduceLeDiff, Int.reduceEq, Int.reduceLT, Int.reduceLE, reduceIte, aresults, aresult, hp0, b4, b2, textsL, hf, hsl, cna] at hx; (try (rw [guardF_if] at hx; split at hx <;> rename_i hc)))); all_goals (subst hx; first | (refine ⟨_, rfl, fun ht => ?_, fun ht => ?_⟩ <;> (try simp only [bbs] at ht)) | (refine ⟨_, rfl, ?_⟩; (try simp only [tupOf])))) | refine wSkip ?_ | (refine wExit ?_; simp only [thenQ, blockQ, reduceIte, Nat.reduceEqDiff]) | refine wSeq ?_ | refine wBlock ?_)
  all_goals try (exfalso; (try simp only [bbs] at *); first | omega | exact absurd trivial (by assumption))
  (first | refine wSeqrF ?_ | refine wRegF ?_); intro xx hx; have hc := trivial; (repeat' (simp only [hc, Nat.reduceBEq, go_sem, Nat.reduceAdd, Nat.reduceMul, Nat.reduceSub, Nat.reduceEqDiff, Nat.reduceLT, Nat.reduceLeDiff, Int.reduceEq, Int.reduceLT, Int.reduceLE, reduceIte, aresults, aresult, hp0, b4, b2, textsL, hf, hsl] at hx; (try (rw [guardF_if] at hx; split at hx <;> rename_i hc)))); generalize hq : aappend Tryz.prog _ _ _ _ = q at hx
  obtain ⟨xa, Ka, rfl, hacca, hga, hka, hoa⟩ := app_rows hq el97 zero2 by2 int97 (sz := 1) rfl (by omega) RAcc.nil (m := 1) rfl (afirst_one _ _ [AV.v (.int .i64 na)]) rfl (by omega) (by omega)
  clear hq
  simp only [Hp.set_g, Hp.new_g, Hp.nil, List.nil_append, List.cons_append, Nat.zero_add, Nat.reduceAdd] at hga hka hacca hoa
  have k0a : Ka.h 0 = some [AV.v (.int .i64 0), .v (.int .i64 0), .v (.int .i64 0), .v (.int .i64 0), .v (.slice none 0 0), .v (.int .i64 0), .v (.int .i64 0), .v (.slice none 0 0)] := (hka 0 (by omega) off_nil).trans rfl
  have f0a : Off 0 xa := hoa 0 (by omega) off_nil
  have g0a : (0 = Ka.g) = False := eq_false (by omega)
  have g1a : (Ka.g = 0) = False := eq_false (by omega)
  have hc := trivial; (repeat' (simp only [hc, Nat.reduceBEq, go_sem, Nat.reduceAdd, Nat.reduceMul, Nat.reduceSub, Nat.reduceEqDiff, Nat.reduceLT, Nat.reduceLeDiff, Int.reduceEq, Int.reduceLT, Int.reduceLE, reduceIte, aresults, aresult, hp0, b4, b2, textsL, hf, hsl] at hx; (try (rw [guardF_if] at hx; split at hx <;> rename_i hc)))); all_goals (subst hx; refine ⟨_, rfl, ?_⟩)
  repeat' (first | ((first | refine wSeqrF ?_ | refine wIf ?_ | refine wRegF ?_ | (refine wRet ?_; (try simp only [thenQ, blockQ]); refine ends_by ?_)); intro xx hx; have hc := trivial; (repeat' (simp only [hc, Nat.reduceBEq, go_sem, Nat.reduceAdd, Nat.reduceMul, Nat.reduceSub, Nat.reduceEqDiff, Nat.reduceLT, Nat.reduceLeDiff, Int.reduceEq, Int.reduceLT, Int.reduceLE, reduceIte, aresults, aresult, hp0, b4, b2, textsL, hf, hsl] at hx; (try (rw [guardF_if] at hx; split at hx <;> rename_i hc)))); all_goals (subst hx; first | (refine ⟨_, rfl, fun ht => ?_, fun ht => ?_⟩ <;> (try simp only [bbs] at ht)) | (refine ⟨_, rfl, ?_⟩; (try simp only [tupOf])))) | refine wSkip ?_ | (refine wExit ?_; simp only [thenQ, blockQ, reduceIte, Nat.reduceEqDiff]) | refine wSeq ?_ | refine wBlock ?_)
  refine wUnroll ?_
  by_cases hb : nb < 0
  · simp only [if_pos hb] at cnb
    repeat' (first | ((first | refine wSeqrF ?_ | refine wIf ?_ | refine wRegF ?_ | (refine wRet ?_; (try simp only [thenQ, blockQ]); refine ends_by ?_)); intro xx hx; have hc := trivial; (repeat' (simp only [hc, Nat.reduceBEq, go_sem, Nat.reduceAdd, Nat.reduceMul, Nat.reduceSub, Nat.reduceEqDiff, Nat.reduceLT, Nat.reduceLeDiff, Int.reduceEq, Int.reduceLT, Int.reduceLE, reduceIte, aresults, aresult, hp0, b4, b2, textsL, hf, hsl, cnb, k0a, g0a, g1a, Option.isSome_some] at hx; (try (rw [guardF_if] at hx; split at hx <;> rename_i hc)))); all_goals (subst hx; first | (refine ⟨_, rfl, fun ht => ?_, fun ht => ?_⟩ <;> (try simp only [bbs] at ht)) | (refine ⟨_, rfl, ?_⟩; (try simp only [tupOf])))) | refine wSkip ?_ | (refine wExit ?_; simp only [thenQ, blockQ, reduceIte, Nat.reduceEqDiff]) | refine wSeq ?_ | refine wBlock ?_)
    all_goals try (exfalso; (try simp only [bbs] at *); first | omega | exact absurd trivial (by assumption))
    all_goals first | exact ev_leaf (by first | exact dN | exact dB _ | exact dE | exact dO _) (by first | exact dN | exact dB _ | exact dE | exact dO _) (by simp [*]) (fun z hz => by simp [*] at hz) | skip
  simp only [if_neg hb] at cnb
  repeat' ((fail_if_success (first | refine wAt 20 ?_)); first | ((first | refine wSeqrF ?_ | refine wIf ?_ | refine wRegF ?_ | (refine wRet ?_; (try simp only [thenQ, blockQ]); refine ends_by ?_)); intro xx hx; have hc := trivial; (repeat' (simp only [hc, Nat.reduceBEq, go_sem, Nat.reduceAdd, Nat.reduceMul, Nat.reduceSub, Nat.reduceEqDiff, Nat.reduceLT, Nat.reduceLeDiff, Int.reduceEq, Int.reduceLT, Int.reduceLE, reduceIte, aresults, aresult, hp0, b4, b2, textsL, hf, hsl, cnb] at hx; (try (rw [guardF_if] at hx; split at hx <;> rename_i hc)))); all_goals (subst hx; first | (refine ⟨_, rfl, fun ht => ?_, fun ht => ?_⟩ <;> (try simp only [bbs] at ht)) | (refine ⟨_, rfl, ?_⟩; (try simp only [tupOf])))) | refine wSkip ?_ | (refine wExit ?_; simp only [thenQ, blockQ, reduceIte, Nat.reduceEqDiff]) | refine wSeq ?_ | refine wBlock ?_)
  all_goals try (exfalso; (try simp only [bbs] at *); first | omega | exact absurd trivial (by assumption))
  (first | refine wSeqrF ?_ | refine wRegF ?_); intro xx hx; have hc := trivial; (repeat' (simp only [hc, Nat.reduceBEq, go_sem, Nat.reduceAdd, Nat.reduceMul, Nat.reduceSub, Nat.reduceEqDiff, Nat.reduceLT, Nat.reduceLeDiff, Int.reduceEq, Int.reduceLT, Int.reduceLE, reduceIte, aresults, aresult, hp0, b4, b2, textsL, hf, hsl] at hx; (try (rw [guardF_if] at hx; split at hx <;> rename_i hc)))); generalize hq : aappend Tryz.prog _ _ _ _ = q at hx
  obtain ⟨xb, Kb, rfl, haccb, hgb, hkb, hob⟩ := app_rows hq el97 zero2 by2 int97 (sz := 1) rfl (by omega) (hacca.ext ⟨by simp only [Hp.set_g, Hp.new_g]; omega, fun b hb => by simp only [Hp.set_h, Hp.new_h]; (repeat' split) <;> first | omega | rfl⟩) (m := 1) rfl (afirst_one _ _ [AV.v (.int .i64 nb)]) rfl (by omega) (by omega)
  clear hq
  simp only [Hp.set_g, Hp.new_g, Hp.nil, List.nil_append, List.cons_append, Nat.zero_add, Nat.reduceAdd] at hgb hkb haccb hob
  have k0b : Kb.h 0 = some [AV.v (.int .i64 0), .v (.int .i64 0), .v (.int .i64 0), .v (.int .i64 0), .v (.slice none 0 0), .v (.int .i64 0), .v (.int .i64 0), .v (.slice none 0 0)] := (hkb 0 (by omega) f0a).trans (by simp only [Hp.set_h, Hp.new_h]; rw [if_neg (by omega), if_neg (by omega)]; exact k0a)
  have f0b : Off 0 xb := hob 0 (by omega) f0a
  have g0b : (0 = Kb.g) = False := eq_false (by omega)
  have g1b : (Kb.g = 0) = False := eq_false (by omega)
  obtain ⟨p, hpp, rfl, hh⟩ := own_at haccb
  have q1 : (p = Kb.g) = False := eq_false (by omega)
  have q2 : (Kb.g = p) = False := eq_false (by omega)
  have q3 : (p = 0) = False := eq_false (fun e => f0b _ _ _ (by rw [e]))
  have q4 : (0 = p) = False := eq_false (fun e => f0b _ _ _ (by rw [← e]))
  have hc := trivial; (repeat' (simp only [hc, Nat.reduceBEq, go_sem, Nat.reduceAdd, Nat.reduceMul, Nat.reduceSub, Nat.reduceEqDiff, Nat.reduceLT, Nat.reduceLeDiff, Int.reduceEq, Int.reduceLT, Int.reduceLE, reduceIte, aresults, aresult, hp0, b4, b2, textsL, hf, hsl] at hx; (try (rw [guardF_if] at hx; split at hx <;> rename_i hc)))); all_goals (subst hx; refine ⟨_, rfl, ?_⟩)
  repeat' (first | ((first | refine wSeqrF ?_ | refine wIf ?_ | refine wRegF ?_ | (refine wRet ?_; (try simp only [thenQ, blockQ]); refine ends_by ?_)); intro xx hx; have hc := trivial; (repeat' (simp only [hc, Nat.reduceBEq, go_sem, Nat.reduceAdd, Nat.reduceMul, Nat.reduceSub, Nat.reduceEqDiff, Nat.reduceLT, Nat.reduceLeDiff, Int.reduceEq, Int.reduceLT, Int.reduceLE, reduceIte, aresults, aresult, hp0, b4, b2, textsL, hf, hsl, hh, q1, q2, q3, q4, k0b, g0b, g1b, Option.isSome_some] at hx; (try (rw [guardF_if] at hx; split at hx <;> rename_i hc)))); all_goals (subst hx; first | (refine ⟨_, rfl, fun ht => ?_, fun ht => ?_⟩ <;> (try simp only [bbs] at ht)) | (refine ⟨_, rfl, ?_⟩; (try simp only [tupOf])))) | refine wSkip ?_ | (refine wExit ?_; simp only [thenQ, blockQ, reduceIte, Nat.reduceEqDiff]) | refine wSeq ?_ | refine wBlock ?_)
  all_goals try (exfalso; (try simp only [bbs] at *); first | omega | exact absurd trivial (by assumption))
  refine wUnroll ?_
  repeat' ((fail_if_success (first | refine wAt 38 ?_)); first | ((first | refine wSeqrF ?_ | refine wIf ?_ | refine wRegF ?_ | (refine wRet ?_; (try simp only [thenQ, blockQ]); refine ends_by ?_)); intro xx hx; have hc := trivial; (repeat' (simp only [hc, Nat.reduceBEq, go_sem, Nat.reduceAdd, Nat.reduceMul, Nat.reduceSub, Nat.reduceEqDiff, Nat.reduceLT, Nat.reduceLeDiff, Int.reduceEq, Int.reduceLT, Int.reduceLE, reduceIte, aresults, aresult, hp0, b4, b2, textsL, hf, hsl, hh, q1, q2, q3, q4, k0b, g0b, g1b, Option.isSome_some] at hx; (try (rw [guardF_if] at hx; split at hx <;> rename_i hc)))); all_goals (subst hx; first | (refine ⟨_, rfl, fun ht => ?_, fun ht => ?_⟩ <;> (try simp only [bbs] at ht)) | (refine ⟨_, rfl, ?_⟩; (try simp only [tupOf])))) | refine wSkip ?_ | (refine wExit ?_; simp only [thenQ, blockQ, reduceIte, Nat.reduceEqDiff]) | refine wSeq ?_ | refine wBlock ?_)
  all_goals try (exfalso; (try simp only [bbs] at *); first | omega | exact absurd trivial (by assumption))
  refine wRegK (Hp.one p [AV.v (.int .i64 na), AV.v (.int .i64 nb)]) (hExt_one (by simp only [Hp.set_h, Hp.new_h, q1, q2, q3, q4, if_false]; exact hh)) (fun xx hx => ?_)
  have hc := trivial; (repeat' (simp only [hc, Nat.reduceBEq, go_sem, Nat.reduceAdd, Nat.reduceMul, Nat.reduceSub, Nat.reduceEqDiff, Nat.reduceLT, Nat.reduceLeDiff, Int.reduceEq, Int.reduceLT, Int.reduceLE, reduceIte, aresults, aresult, hp0, b4, b2, textsL, hf, hsl, hh, q1, q2, q3, q4, k0b, g0b, g1b, Option.isSome_some] at hx; (try ((first | rw [guardL_if] at hx | rw [guardF_if] at hx); split at hx <;> rename_i hc)))); all_goals (subst hx; refine ⟨_, rfl, ?_⟩)
  repeat' (first | ((first | refine wSeqrF ?_ | refine wIf ?_ | refine wRegF ?_ | (refine wRet ?_; (try simp only [thenQ, blockQ]); refine ends_by ?_)); intro xx hx; have hc := trivial; (repeat' (simp only [hc, Nat.reduceBEq, go_sem, Nat.reduceAdd, Nat.reduceMul, Nat.reduceSub, Nat.reduceEqDiff, Nat.reduceLT, Nat.reduceLeDiff, Int.reduceEq, Int.reduceLT, Int.reduceLE, reduceIte, aresults, aresult, hp0, b4, b2, textsL, hf, hsl, hh, q1, q2, q3, q4, k0b, g0b, g1b, Option.isSome_some] at hx; (try (rw [guardF_if] at hx; split at hx <;> rename_i hc)))); all_goals (subst hx; first | (refine ⟨_, rfl, fun ht => ?_, fun ht => ?_⟩ <;> (try simp only [bbs] at ht)) | (refine ⟨_, rfl, ?_⟩; (try simp only [tupOf])))) | refine wSkip ?_ | (refine wExit ?_; simp only [thenQ, blockQ, reduceIte, Nat.reduceEqDiff]) | refine wSeq ?_ | refine wBlock ?_)
  all_goals try (exfalso; (try simp only [bbs] at *); first | omega | exact absurd trivial (by assumption))
  (try rw [if_neg ha]); (try rw [if_neg (by omega)]); (try rw [if_pos (by omega)]); (try simp only [Option.map_some])
  all_goals first | exact ev_leaf (by first | exact dN | exact dB _ | exact dE | exact dO _) (by first | exact dN | exact dB _ | exact dE | exact dO _) rfl (fun z hz => by first | (cases hz; rfl) | cases hz)
end
end Go.Proofs.YtakbbccdnkigpaaGreatDoor
