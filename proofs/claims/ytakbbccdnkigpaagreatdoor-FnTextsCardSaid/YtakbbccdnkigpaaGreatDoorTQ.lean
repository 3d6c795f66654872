/- Contracts: events of words, the program's side, whole; EventOf of both sides. Contracts: EventOf of both sides (read results). Contracts: the texts of bytes, both sides. Contracts: texts of claims, both sides. -/
import Derived.Test.YtakbbccdnkigpaaGreatDoorT4
import Derived.Test.YtakbbccdnkigpaaGreatDoorKC
namespace Go.Proofs.YtakbbccdnkigpaaGreatDoor
open Go Go.RowKit Go.Proofs.YtakbbccdnkigpaaGreatDoor.Eng
set_option linter.unusedSimpArgs false
set_option linter.unusedVariables false
set_option maxRecDepth 100000
set_option maxHeartbeats 2000000
noncomputable section
theorem p_parsed_nil : ∃ v cl, EvQ (evS []) v ∧ pure Tryz.prog cfg0 32 Tryz.f32 [textsL []] = some (v, cl) := by
  refine pure_ex (rs := [.cell 2 26, .tmp 3]) rfl rfl ?_
  have hp0 : ∀ b, cfg0.pol 32 b = (if b = 111 then 3 else if b = 112 then 3 else if b = 114 then 3 else if b = 115 then 3 else if b = 116 then 3 else if b = 135 then 3 else if b = 136 then 3 else if b = 1000000 then 2 else 0) := fun b => rfl
  have T : textsL [] = .lst false [] := rfl
  rw [show evS [] = none from rfl]
  repeat' (first | ((first | refine wSeqr ?_ | refine wSeqrF ?_ | refine wIf ?_ | refine wReg ?_ | refine wRegF ?_ | (refine wRet ?_; (try simp only [thenQ, blockQ]); refine ends_by ?_)); intro xx hx; have hc := trivial; (repeat' (simp only [hc, Nat.reduceBEq, go_sem, Nat.reduceAdd, Nat.reduceMul, Nat.reduceSub, Nat.reduceEqDiff, Nat.reduceLT, Nat.reduceLeDiff, Int.reduceEq, Int.reduceLT, Int.reduceLE, reduceIte, aresults, aresult, hp0, b4, b2, textsL] at hx; (try ((first | rw [guardL_if] at hx | rw [guardF_if] at hx); split at hx <;> rename_i hc)))); all_goals (subst hx; first | (refine ⟨_, rfl, fun ht => ?_, fun ht => ?_⟩ <;> (try simp only [bbs] at ht)) | (refine ⟨_, rfl, ?_⟩; (try simp only [tupOf])))) | refine wSkip ?_ | (refine wExit ?_; simp only [thenQ, blockQ, reduceIte, Nat.reduceEqDiff]) | refine wSeq ?_ | refine wBlock ?_)
  all_goals try (exfalso; (try simp only [bbs] at *); first | omega | exact absurd trivial (by assumption))
  all_goals first | exact ev_leaf (by first | exact dN | exact dB _ | exact dE | exact dO _) (by first | exact dN | exact dB _ | exact dE | exact dO _) rfl (fun z hz => by first | (cases hz; rfl) | cases hz)
theorem p_parsed_bad (w : ByteArray) (rest : List ByteArray) (kd ac : Int) (fm : ByteArray) (n : Nat) (hfl : ((fm.size : Nat) : Int) = n) (hf : ∀ H, call Tryz.prog cfg0 0 72 [.v (.string w)] H = some (.tup [.v (.int .i64 kd), .v (.int .i64 ac), .v (.string fm)], H))
    (hb : kd = 0 ∨ (rest.length ≠ n ∧ (kd ≠ 6 ∨ rest.length ≠ 1))) (hn : evS (w :: rest) = none) : ∃ v cl, EvQ (evS (w :: rest)) v ∧ pure Tryz.prog cfg0 32 Tryz.f32 [textsL (w :: rest)] = some (v, cl) := by
  refine pure_ex (rs := [.cell 2 26, .tmp 3]) rfl rfl ?_
  have hp0 : ∀ b, cfg0.pol 32 b = (if b = 111 then 3 else if b = 112 then 3 else if b = 114 then 3 else if b = 115 then 3 else if b = 116 then 3 else if b = 135 then 3 else if b = 136 then 3 else if b = 1000000 then 2 else 0) := fun b => rfl
  have T : textsL (w :: rest) = .lst false ([.v (.string w)] :: rest.map fun s => [AV.v (.string s)]) := rfl
  have hsl := slice_rest (c := [.v (.string w)]) (xs := rest.map fun s => [AV.v (.string s)]) (by simp)
  have hl0 : (((rest.length + 1 : Nat) : Int) = 0) = False := eq_false (by omega)
  rw [hn]
  by_cases h0 : kd = 0
  · subst h0
    repeat' (first | ((first | refine wSeqr ?_ | refine wSeqrF ?_ | refine wIf ?_ | refine wReg ?_ | refine wRegF ?_ | (refine wRet ?_; (try simp only [thenQ, blockQ]); refine ends_by ?_)); intro xx hx; have hc := trivial; (repeat' (simp only [hc, Nat.reduceBEq, go_sem, Nat.reduceAdd, Nat.reduceMul, Nat.reduceSub, Nat.reduceEqDiff, Nat.reduceLT, Nat.reduceLeDiff, Int.reduceEq, Int.reduceLT, Int.reduceLE, reduceIte, aresults, aresult, hp0, T, List.getElem?_cons_zero, List.length_cons, List.length_map, not_true_eq_false, not_false_eq_true, decide_true, decide_false, Bool.not_true, Bool.not_false, hsl, hf, hl0] at hx; (try ((first | rw [guardL_if] at hx | rw [guardF_if] at hx); split at hx <;> rename_i hc)))); all_goals (subst hx; first | (refine ⟨_, rfl, fun ht => ?_, fun ht => ?_⟩ <;> (try simp only [bbs] at ht)) | (refine ⟨_, rfl, ?_⟩; (try simp only [tupOf])))) | refine wSkip ?_ | (refine wExit ?_; simp only [thenQ, blockQ, reduceIte, Nat.reduceEqDiff]) | refine wSeq ?_ | refine wBlock ?_)
    all_goals try (exfalso; (try simp only [bbs] at *); first | omega | exact absurd trivial (by assumption))
    all_goals first | exact ev_leaf (by first | exact dN | exact dB _ | exact dE | exact dO _) (by first | exact dN | exact dB _ | exact dE | exact dO _) rfl (fun z hz => by first | (cases hz; rfl) | cases hz)
  obtain ⟨hb1, hb2⟩ := hb.resolve_left h0
  have hne : (((rest.length : Nat) : Int) = ((fm.size : Nat) : Int)) = False := eq_false (by omega)
  by_cases h6 : kd = 6
  · have h1 : (((rest.length : Nat) : Int) = 1) = False := eq_false (by rcases hb2 with h | h; exact absurd h6 h; omega)
    subst h6
    repeat' (first | ((first | refine wSeqr ?_ | refine wSeqrF ?_ | refine wIf ?_ | refine wReg ?_ | refine wRegF ?_ | (refine wRet ?_; (try simp only [thenQ, blockQ]); refine ends_by ?_)); intro xx hx; have hc := trivial; (repeat' (simp only [hc, Nat.reduceBEq, go_sem, Nat.reduceAdd, Nat.reduceMul, Nat.reduceSub, Nat.reduceEqDiff, Nat.reduceLT, Nat.reduceLeDiff, Int.reduceEq, Int.reduceLT, Int.reduceLE, reduceIte, aresults, aresult, hp0, T, List.getElem?_cons_zero, List.length_cons, List.length_map, not_true_eq_false, not_false_eq_true, decide_true, decide_false, Bool.not_true, Bool.not_false, hsl, hf, hl0, hne, h1] at hx; (try ((first | rw [guardL_if] at hx | rw [guardF_if] at hx); split at hx <;> rename_i hc)))); all_goals (subst hx; first | (refine ⟨_, rfl, fun ht => ?_, fun ht => ?_⟩ <;> (try simp only [bbs] at ht)) | (refine ⟨_, rfl, ?_⟩; (try simp only [tupOf])))) | refine wSkip ?_ | (refine wExit ?_; simp only [thenQ, blockQ, reduceIte, Nat.reduceEqDiff]) | refine wSeq ?_ | refine wBlock ?_)
    all_goals try (exfalso; (try simp only [bbs] at *); first | omega | exact absurd trivial (by assumption))
    all_goals first | exact ev_leaf (by first | exact dN | exact dB _ | exact dE | exact dO _) (by first | exact dN | exact dB _ | exact dE | exact dO _) rfl (fun z hz => by first | (cases hz; rfl) | cases hz)
  have h0e : (kd = 0) = False := eq_false h0
  have h6e : (kd = 6) = False := eq_false h6
  repeat' (first | ((first | refine wSeqr ?_ | refine wSeqrF ?_ | refine wIf ?_ | refine wReg ?_ | refine wRegF ?_ | (refine wRet ?_; (try simp only [thenQ, blockQ]); refine ends_by ?_)); intro xx hx; have hc := trivial; (repeat' (simp only [hc, Nat.reduceBEq, go_sem, Nat.reduceAdd, Nat.reduceMul, Nat.reduceSub, Nat.reduceEqDiff, Nat.reduceLT, Nat.reduceLeDiff, Int.reduceEq, Int.reduceLT, Int.reduceLE, reduceIte, aresults, aresult, hp0, T, List.getElem?_cons_zero, List.length_cons, List.length_map, not_true_eq_false, not_false_eq_true, decide_true, decide_false, Bool.not_true, Bool.not_false, hsl, hf, hl0, hne, h0e, h6e] at hx; (try ((first | rw [guardL_if] at hx | rw [guardF_if] at hx); split at hx <;> rename_i hc)))); all_goals (subst hx; first | (refine ⟨_, rfl, fun ht => ?_, fun ht => ?_⟩ <;> (try simp only [bbs] at ht)) | (refine ⟨_, rfl, ?_⟩; (try simp only [tupOf])))) | refine wSkip ?_ | (refine wExit ?_; simp only [thenQ, blockQ, reduceIte, Nat.reduceEqDiff]) | refine wSeq ?_ | refine wBlock ?_)
  all_goals try (exfalso; (try simp only [bbs] at *); first | omega | exact absurd trivial (by assumption))
  all_goals first | exact ev_leaf (by first | exact dN | exact dB _ | exact dE | exact dO _) (by first | exact dN | exact dB _ | exact dE | exact dO _) rfl (fun z hz => by first | (cases hz; rfl) | cases hz)
theorem p_parsed (l : List ByteArray) (hz : ∀ z ∈ l, z.size ≤ 1048576) : ∃ v cl, EvQ (evS l) v ∧ pure Tryz.prog cfg0 32 Tryz.f32 [textsL l] = some (v, cl) := by
  match l, hz with
  | [], _ => exact p_parsed_nil
  | w :: rest, hz =>
    have hzs := hz
    by_cases n_tick : w.data.toList = [116, 105, 99, 107]
    · have hw := n_tick
      have e_tick : (w.data.toList = [116, 105, 99, 107]) = True := eq_true hw
      have e_stop : (w.data.toList = [115, 116, 111, 112]) = False := eq_false (by rw [hw]; decide)
      have e_come : (w.data.toList = [99, 111, 109, 101]) = False := eq_false (by rw [hw]; decide)
      have e_close : (w.data.toList = [108, 111, 115, 101]) = False := eq_false (by rw [hw]; decide)
      have e_copy : (w.data.toList = [99, 111, 112, 121]) = False := eq_false (by rw [hw]; decide)
      have e_turn : (w.data.toList = [116, 117, 114, 110]) = False := eq_false (by rw [hw]; decide)
      have e_push : (w.data.toList = [112, 117, 115, 104]) = False := eq_false (by rw [hw]; decide)
      have e_install : (w.data.toList = [105, 110, 115, 116, 97, 108, 108]) = False := eq_false (by rw [hw]; decide)
      have e_use : (w.data.toList = [117, 115, 101]) = False := eq_false (by rw [hw]; decide)
      have e_remove : (w.data.toList = [114, 101, 109, 111, 118, 101]) = False := eq_false (by rw [hw]; decide)
      match rest, hz with
      | [], _ => exact p_parsed_bad w _ 1 0 ⟨#[78]⟩ 1 rfl (c_form_tick w hw) (Or.inr ⟨by simp only [List.length_cons, List.length_nil]; omega, by first | exact Or.inl (by omega) | (right; simp only [List.length_cons, List.length_nil]; omega)⟩) (by first | rfl | simp only [evS, evK, e_tick, e_stop, e_come, e_close, e_copy, e_turn, e_push, e_install, e_use, e_remove, if_false, if_true, ite_self])
      | [a], hz => exact p_parsed_tick w a hw hz
      | [a, b], _ => exact p_parsed_bad w _ 1 0 ⟨#[78]⟩ 1 rfl (c_form_tick w hw) (Or.inr ⟨by simp only [List.length_cons, List.length_nil]; omega, by first | exact Or.inl (by omega) | (right; simp only [List.length_cons, List.length_nil]; omega)⟩) (by first | rfl | simp only [evS, evK, e_tick, e_stop, e_come, e_close, e_copy, e_turn, e_push, e_install, e_use, e_remove, if_false, if_true, ite_self])
      | [a, b, c], _ => exact p_parsed_bad w _ 1 0 ⟨#[78]⟩ 1 rfl (c_form_tick w hw) (Or.inr ⟨by simp only [List.length_cons, List.length_nil]; omega, by first | exact Or.inl (by omega) | (right; simp only [List.length_cons, List.length_nil]; omega)⟩) (by first | rfl | simp only [evS, evK, e_tick, e_stop, e_come, e_close, e_copy, e_turn, e_push, e_install, e_use, e_remove, if_false, if_true, ite_self])
      | a :: b :: c :: d :: r, _ => exact p_parsed_bad w _ 1 0 ⟨#[78]⟩ 1 rfl (c_form_tick w hw) (Or.inr ⟨by simp only [List.length_cons, List.length_nil]; omega, by first | exact Or.inl (by omega) | (right; simp only [List.length_cons, List.length_nil]; omega)⟩) (by first | rfl | simp only [evS, evK, e_tick, e_stop, e_come, e_close, e_copy, e_turn, e_push, e_install, e_use, e_remove, if_false, if_true, ite_self])
    by_cases n_stop : w.data.toList = [115, 116, 111, 112]
    · have hw := n_stop
      have e_tick : (w.data.toList = [116, 105, 99, 107]) = False := eq_false (by rw [hw]; decide)
      have e_stop : (w.data.toList = [115, 116, 111, 112]) = True := eq_true hw
      have e_come : (w.data.toList = [99, 111, 109, 101]) = False := eq_false (by rw [hw]; decide)
      have e_close : (w.data.toList = [108, 111, 115, 101]) = False := eq_false (by rw [hw]; decide)
      have e_copy : (w.data.toList = [99, 111, 112, 121]) = False := eq_false (by rw [hw]; decide)
      have e_turn : (w.data.toList = [116, 117, 114, 110]) = False := eq_false (by rw [hw]; decide)
      have e_push : (w.data.toList = [112, 117, 115, 104]) = False := eq_false (by rw [hw]; decide)
      have e_install : (w.data.toList = [105, 110, 115, 116, 97, 108, 108]) = False := eq_false (by rw [hw]; decide)
      have e_use : (w.data.toList = [117, 115, 101]) = False := eq_false (by rw [hw]; decide)
      have e_remove : (w.data.toList = [114, 101, 109, 111, 118, 101]) = False := eq_false (by rw [hw]; decide)
      match rest, hz with
      | [], _ => exact p_parsed_bad w _ 8 0 ⟨#[78]⟩ 1 rfl (c_form_stop w hw) (Or.inr ⟨by simp only [List.length_cons, List.length_nil]; omega, by first | exact Or.inl (by omega) | (right; simp only [List.length_cons, List.length_nil]; omega)⟩) (by first | rfl | simp only [evS, evK, e_tick, e_stop, e_come, e_close, e_copy, e_turn, e_push, e_install, e_use, e_remove, if_false, if_true, ite_self])
      | [a], hz => exact p_parsed_stop w a hw hz
      | [a, b], _ => exact p_parsed_bad w _ 8 0 ⟨#[78]⟩ 1 rfl (c_form_stop w hw) (Or.inr ⟨by simp only [List.length_cons, List.length_nil]; omega, by first | exact Or.inl (by omega) | (right; simp only [List.length_cons, List.length_nil]; omega)⟩) (by first | rfl | simp only [evS, evK, e_tick, e_stop, e_come, e_close, e_copy, e_turn, e_push, e_install, e_use, e_remove, if_false, if_true, ite_self])
      | [a, b, c], _ => exact p_parsed_bad w _ 8 0 ⟨#[78]⟩ 1 rfl (c_form_stop w hw) (Or.inr ⟨by simp only [List.length_cons, List.length_nil]; omega, by first | exact Or.inl (by omega) | (right; simp only [List.length_cons, List.length_nil]; omega)⟩) (by first | rfl | simp only [evS, evK, e_tick, e_stop, e_come, e_close, e_copy, e_turn, e_push, e_install, e_use, e_remove, if_false, if_true, ite_self])
      | a :: b :: c :: d :: r, _ => exact p_parsed_bad w _ 8 0 ⟨#[78]⟩ 1 rfl (c_form_stop w hw) (Or.inr ⟨by simp only [List.length_cons, List.length_nil]; omega, by first | exact Or.inl (by omega) | (right; simp only [List.length_cons, List.length_nil]; omega)⟩) (by first | rfl | simp only [evS, evK, e_tick, e_stop, e_come, e_close, e_copy, e_turn, e_push, e_install, e_use, e_remove, if_false, if_true, ite_self])
    by_cases n_come : w.data.toList = [99, 111, 109, 101]
    · have hw := n_come
      have e_tick : (w.data.toList = [116, 105, 99, 107]) = False := eq_false (by rw [hw]; decide)
      have e_stop : (w.data.toList = [115, 116, 111, 112]) = False := eq_false (by rw [hw]; decide)
      have e_come : (w.data.toList = [99, 111, 109, 101]) = True := eq_true hw
      have e_close : (w.data.toList = [108, 111, 115, 101]) = False := eq_false (by rw [hw]; decide)
      have e_copy : (w.data.toList = [99, 111, 112, 121]) = False := eq_false (by rw [hw]; decide)
      have e_turn : (w.data.toList = [116, 117, 114, 110]) = False := eq_false (by rw [hw]; decide)
      have e_push : (w.data.toList = [112, 117, 115, 104]) = False := eq_false (by rw [hw]; decide)
      have e_install : (w.data.toList = [105, 110, 115, 116, 97, 108, 108]) = False := eq_false (by rw [hw]; decide)
      have e_use : (w.data.toList = [117, 115, 101]) = False := eq_false (by rw [hw]; decide)
      have e_remove : (w.data.toList = [114, 101, 109, 111, 118, 101]) = False := eq_false (by rw [hw]; decide)
      match rest, hz with
      | [], _ => exact p_parsed_bad w _ 2 0 ⟨#[78]⟩ 1 rfl (c_form_come w hw) (Or.inr ⟨by simp only [List.length_cons, List.length_nil]; omega, by first | exact Or.inl (by omega) | (right; simp only [List.length_cons, List.length_nil]; omega)⟩) (by first | rfl | simp only [evS, evK, e_tick, e_stop, e_come, e_close, e_copy, e_turn, e_push, e_install, e_use, e_remove, if_false, if_true, ite_self])
      | [a], hz => exact p_parsed_come w a hw hz
      | [a, b], _ => exact p_parsed_bad w _ 2 0 ⟨#[78]⟩ 1 rfl (c_form_come w hw) (Or.inr ⟨by simp only [List.length_cons, List.length_nil]; omega, by first | exact Or.inl (by omega) | (right; simp only [List.length_cons, List.length_nil]; omega)⟩) (by first | rfl | simp only [evS, evK, e_tick, e_stop, e_come, e_close, e_copy, e_turn, e_push, e_install, e_use, e_remove, if_false, if_true, ite_self])
      | [a, b, c], _ => exact p_parsed_bad w _ 2 0 ⟨#[78]⟩ 1 rfl (c_form_come w hw) (Or.inr ⟨by simp only [List.length_cons, List.length_nil]; omega, by first | exact Or.inl (by omega) | (right; simp only [List.length_cons, List.length_nil]; omega)⟩) (by first | rfl | simp only [evS, evK, e_tick, e_stop, e_come, e_close, e_copy, e_turn, e_push, e_install, e_use, e_remove, if_false, if_true, ite_self])
      | a :: b :: c :: d :: r, _ => exact p_parsed_bad w _ 2 0 ⟨#[78]⟩ 1 rfl (c_form_come w hw) (Or.inr ⟨by simp only [List.length_cons, List.length_nil]; omega, by first | exact Or.inl (by omega) | (right; simp only [List.length_cons, List.length_nil]; omega)⟩) (by first | rfl | simp only [evS, evK, e_tick, e_stop, e_come, e_close, e_copy, e_turn, e_push, e_install, e_use, e_remove, if_false, if_true, ite_self])
    by_cases n_close : w.data.toList = [108, 111, 115, 101]
    · have hw := n_close
      have e_tick : (w.data.toList = [116, 105, 99, 107]) = False := eq_false (by rw [hw]; decide)
      have e_stop : (w.data.toList = [115, 116, 111, 112]) = False := eq_false (by rw [hw]; decide)
      have e_come : (w.data.toList = [99, 111, 109, 101]) = False := eq_false (by rw [hw]; decide)
      have e_close : (w.data.toList = [108, 111, 115, 101]) = True := eq_true hw
      have e_copy : (w.data.toList = [99, 111, 112, 121]) = False := eq_false (by rw [hw]; decide)
      have e_turn : (w.data.toList = [116, 117, 114, 110]) = False := eq_false (by rw [hw]; decide)
      have e_push : (w.data.toList = [112, 117, 115, 104]) = False := eq_false (by rw [hw]; decide)
      have e_install : (w.data.toList = [105, 110, 115, 116, 97, 108, 108]) = False := eq_false (by rw [hw]; decide)
      have e_use : (w.data.toList = [117, 115, 101]) = False := eq_false (by rw [hw]; decide)
      have e_remove : (w.data.toList = [114, 101, 109, 111, 118, 101]) = False := eq_false (by rw [hw]; decide)
      match rest, hz with
      | [], _ => exact p_parsed_bad w _ 3 0 ⟨#[78]⟩ 1 rfl (c_form_close w hw) (Or.inr ⟨by simp only [List.length_cons, List.length_nil]; omega, by first | exact Or.inl (by omega) | (right; simp only [List.length_cons, List.length_nil]; omega)⟩) (by first | rfl | simp only [evS, evK, e_tick, e_stop, e_come, e_close, e_copy, e_turn, e_push, e_install, e_use, e_remove, if_false, if_true, ite_self])
      | [a], hz => exact p_parsed_close w a hw hz
      | [a, b], _ => exact p_parsed_bad w _ 3 0 ⟨#[78]⟩ 1 rfl (c_form_close w hw) (Or.inr ⟨by simp only [List.length_cons, List.length_nil]; omega, by first | exact Or.inl (by omega) | (right; simp only [List.length_cons, List.length_nil]; omega)⟩) (by first | rfl | simp only [evS, evK, e_tick, e_stop, e_come, e_close, e_copy, e_turn, e_push, e_install, e_use, e_remove, if_false, if_true, ite_self])
      | [a, b, c], _ => exact p_parsed_bad w _ 3 0 ⟨#[78]⟩ 1 rfl (c_form_close w hw) (Or.inr ⟨by simp only [List.length_cons, List.length_nil]; omega, by first | exact Or.inl (by omega) | (right; simp only [List.length_cons, List.length_nil]; omega)⟩) (by first | rfl | simp only [evS, evK, e_tick, e_stop, e_come, e_close, e_copy, e_turn, e_push, e_install, e_use, e_remove, if_false, if_true, ite_self])
      | a :: b :: c :: d :: r, _ => exact p_parsed_bad w _ 3 0 ⟨#[78]⟩ 1 rfl (c_form_close w hw) (Or.inr ⟨by simp only [List.length_cons, List.length_nil]; omega, by first | exact Or.inl (by omega) | (right; simp only [List.length_cons, List.length_nil]; omega)⟩) (by first | rfl | simp only [evS, evK, e_tick, e_stop, e_come, e_close, e_copy, e_turn, e_push, e_install, e_use, e_remove, if_false, if_true, ite_self])
    by_cases n_copy : w.data.toList = [99, 111, 112, 121]
    · have hw := n_copy
      have e_tick : (w.data.toList = [116, 105, 99, 107]) = False := eq_false (by rw [hw]; decide)
      have e_stop : (w.data.toList = [115, 116, 111, 112]) = False := eq_false (by rw [hw]; decide)
      have e_come : (w.data.toList = [99, 111, 109, 101]) = False := eq_false (by rw [hw]; decide)
      have e_close : (w.data.toList = [108, 111, 115, 101]) = False := eq_false (by rw [hw]; decide)
      have e_copy : (w.data.toList = [99, 111, 112, 121]) = True := eq_true hw
      have e_turn : (w.data.toList = [116, 117, 114, 110]) = False := eq_false (by rw [hw]; decide)
      have e_push : (w.data.toList = [112, 117, 115, 104]) = False := eq_false (by rw [hw]; decide)
      have e_install : (w.data.toList = [105, 110, 115, 116, 97, 108, 108]) = False := eq_false (by rw [hw]; decide)
      have e_use : (w.data.toList = [117, 115, 101]) = False := eq_false (by rw [hw]; decide)
      have e_remove : (w.data.toList = [114, 101, 109, 111, 118, 101]) = False := eq_false (by rw [hw]; decide)
      match rest, hz with
      | [], _ => exact p_parsed_bad w _ 4 0 ⟨#[78]⟩ 1 rfl (c_form_copy w hw) (Or.inr ⟨by simp only [List.length_cons, List.length_nil]; omega, by first | exact Or.inl (by omega) | (right; simp only [List.length_cons, List.length_nil]; omega)⟩) (by first | rfl | simp only [evS, evK, e_tick, e_stop, e_come, e_close, e_copy, e_turn, e_push, e_install, e_use, e_remove, if_false, if_true, ite_self])
      | [a], hz => exact p_parsed_copy w a hw hz
      | [a, b], _ => exact p_parsed_bad w _ 4 0 ⟨#[78]⟩ 1 rfl (c_form_copy w hw) (Or.inr ⟨by simp only [List.length_cons, List.length_nil]; omega, by first | exact Or.inl (by omega) | (right; simp only [List.length_cons, List.length_nil]; omega)⟩) (by first | rfl | simp only [evS, evK, e_tick, e_stop, e_come, e_close, e_copy, e_turn, e_push, e_install, e_use, e_remove, if_false, if_true, ite_self])
      | [a, b, c], _ => exact p_parsed_bad w _ 4 0 ⟨#[78]⟩ 1 rfl (c_form_copy w hw) (Or.inr ⟨by simp only [List.length_cons, List.length_nil]; omega, by first | exact Or.inl (by omega) | (right; simp only [List.length_cons, List.length_nil]; omega)⟩) (by first | rfl | simp only [evS, evK, e_tick, e_stop, e_come, e_close, e_copy, e_turn, e_push, e_install, e_use, e_remove, if_false, if_true, ite_self])
      | a :: b :: c :: d :: r, _ => exact p_parsed_bad w _ 4 0 ⟨#[78]⟩ 1 rfl (c_form_copy w hw) (Or.inr ⟨by simp only [List.length_cons, List.length_nil]; omega, by first | exact Or.inl (by omega) | (right; simp only [List.length_cons, List.length_nil]; omega)⟩) (by first | rfl | simp only [evS, evK, e_tick, e_stop, e_come, e_close, e_copy, e_turn, e_push, e_install, e_use, e_remove, if_false, if_true, ite_self])
    by_cases n_turn : w.data.toList = [116, 117, 114, 110]
    · have hw := n_turn
      have e_tick : (w.data.toList = [116, 105, 99, 107]) = False := eq_false (by rw [hw]; decide)
      have e_stop : (w.data.toList = [115, 116, 111, 112]) = False := eq_false (by rw [hw]; decide)
      have e_come : (w.data.toList = [99, 111, 109, 101]) = False := eq_false (by rw [hw]; decide)
      have e_close : (w.data.toList = [108, 111, 115, 101]) = False := eq_false (by rw [hw]; decide)
      have e_copy : (w.data.toList = [99, 111, 112, 121]) = False := eq_false (by rw [hw]; decide)
      have e_turn : (w.data.toList = [116, 117, 114, 110]) = True := eq_true hw
      have e_push : (w.data.toList = [112, 117, 115, 104]) = False := eq_false (by rw [hw]; decide)
      have e_install : (w.data.toList = [105, 110, 115, 116, 97, 108, 108]) = False := eq_false (by rw [hw]; decide)
      have e_use : (w.data.toList = [117, 115, 101]) = False := eq_false (by rw [hw]; decide)
      have e_remove : (w.data.toList = [114, 101, 109, 111, 118, 101]) = False := eq_false (by rw [hw]; decide)
      match rest, hz with
      | [], _ => exact p_parsed_bad w _ 5 0 ⟨#[78, 78, 78]⟩ 3 rfl (c_form_turn w hw) (Or.inr ⟨by simp only [List.length_cons, List.length_nil]; omega, by first | exact Or.inl (by omega) | (right; simp only [List.length_cons, List.length_nil]; omega)⟩) (by first | rfl | simp only [evS, evK, e_tick, e_stop, e_come, e_close, e_copy, e_turn, e_push, e_install, e_use, e_remove, if_false, if_true, ite_self])
      | [a], _ => exact p_parsed_bad w _ 5 0 ⟨#[78, 78, 78]⟩ 3 rfl (c_form_turn w hw) (Or.inr ⟨by simp only [List.length_cons, List.length_nil]; omega, by first | exact Or.inl (by omega) | (right; simp only [List.length_cons, List.length_nil]; omega)⟩) (by first | rfl | simp only [evS, evK, e_tick, e_stop, e_come, e_close, e_copy, e_turn, e_push, e_install, e_use, e_remove, if_false, if_true, ite_self])
      | [a, b], _ => exact p_parsed_bad w _ 5 0 ⟨#[78, 78, 78]⟩ 3 rfl (c_form_turn w hw) (Or.inr ⟨by simp only [List.length_cons, List.length_nil]; omega, by first | exact Or.inl (by omega) | (right; simp only [List.length_cons, List.length_nil]; omega)⟩) (by first | rfl | simp only [evS, evK, e_tick, e_stop, e_come, e_close, e_copy, e_turn, e_push, e_install, e_use, e_remove, if_false, if_true, ite_self])
      | [a, b, c], hz => exact p_parsed_turn w a b c hw hz
      | a :: b :: c :: d :: r, _ => exact p_parsed_bad w _ 5 0 ⟨#[78, 78, 78]⟩ 3 rfl (c_form_turn w hw) (Or.inr ⟨by simp only [List.length_cons, List.length_nil]; omega, by first | exact Or.inl (by omega) | (right; simp only [List.length_cons, List.length_nil]; omega)⟩) (by first | rfl | simp only [evS, evK, e_tick, e_stop, e_come, e_close, e_copy, e_turn, e_push, e_install, e_use, e_remove, if_false, if_true, ite_self])
    by_cases n_push : w.data.toList = [112, 117, 115, 104]
    · have hw := n_push
      have e_tick : (w.data.toList = [116, 105, 99, 107]) = False := eq_false (by rw [hw]; decide)
      have e_stop : (w.data.toList = [115, 116, 111, 112]) = False := eq_false (by rw [hw]; decide)
      have e_come : (w.data.toList = [99, 111, 109, 101]) = False := eq_false (by rw [hw]; decide)
      have e_close : (w.data.toList = [108, 111, 115, 101]) = False := eq_false (by rw [hw]; decide)
      have e_copy : (w.data.toList = [99, 111, 112, 121]) = False := eq_false (by rw [hw]; decide)
      have e_turn : (w.data.toList = [116, 117, 114, 110]) = False := eq_false (by rw [hw]; decide)
      have e_push : (w.data.toList = [112, 117, 115, 104]) = True := eq_true hw
      have e_install : (w.data.toList = [105, 110, 115, 116, 97, 108, 108]) = False := eq_false (by rw [hw]; decide)
      have e_use : (w.data.toList = [117, 115, 101]) = False := eq_false (by rw [hw]; decide)
      have e_remove : (w.data.toList = [114, 101, 109, 111, 118, 101]) = False := eq_false (by rw [hw]; decide)
      match rest, hz with
      | [], _ => exact p_parsed_bad w _ 6 0 ⟨#[78, 72]⟩ 2 rfl (c_form_push w hw) (Or.inr ⟨by simp only [List.length_cons, List.length_nil]; omega, by first | exact Or.inl (by omega) | (right; simp only [List.length_cons, List.length_nil]; omega)⟩) (by first | rfl | simp only [evS, evK, e_tick, e_stop, e_come, e_close, e_copy, e_turn, e_push, e_install, e_use, e_remove, if_false, if_true, ite_self])
      | [a], hz => exact p_parsed_push1 w a hw hz
      | [a, b], hz => exact p_parsed_push2 w a b hw hz
      | [a, b, c], _ => exact p_parsed_bad w _ 6 0 ⟨#[78, 72]⟩ 2 rfl (c_form_push w hw) (Or.inr ⟨by simp only [List.length_cons, List.length_nil]; omega, by first | exact Or.inl (by omega) | (right; simp only [List.length_cons, List.length_nil]; omega)⟩) (by first | rfl | simp only [evS, evK, e_tick, e_stop, e_come, e_close, e_copy, e_turn, e_push, e_install, e_use, e_remove, if_false, if_true, ite_self])
      | a :: b :: c :: d :: r, _ => exact p_parsed_bad w _ 6 0 ⟨#[78, 72]⟩ 2 rfl (c_form_push w hw) (Or.inr ⟨by simp only [List.length_cons, List.length_nil]; omega, by first | exact Or.inl (by omega) | (right; simp only [List.length_cons, List.length_nil]; omega)⟩) (by first | rfl | simp only [evS, evK, e_tick, e_stop, e_come, e_close, e_copy, e_turn, e_push, e_install, e_use, e_remove, if_false, if_true, ite_self])
    by_cases n_install : w.data.toList = [105, 110, 115, 116, 97, 108, 108]
    · have hw := n_install
      have e_tick : (w.data.toList = [116, 105, 99, 107]) = False := eq_false (by rw [hw]; decide)
      have e_stop : (w.data.toList = [115, 116, 111, 112]) = False := eq_false (by rw [hw]; decide)
      have e_come : (w.data.toList = [99, 111, 109, 101]) = False := eq_false (by rw [hw]; decide)
      have e_close : (w.data.toList = [108, 111, 115, 101]) = False := eq_false (by rw [hw]; decide)
      have e_copy : (w.data.toList = [99, 111, 112, 121]) = False := eq_false (by rw [hw]; decide)
      have e_turn : (w.data.toList = [116, 117, 114, 110]) = False := eq_false (by rw [hw]; decide)
      have e_push : (w.data.toList = [112, 117, 115, 104]) = False := eq_false (by rw [hw]; decide)
      have e_install : (w.data.toList = [105, 110, 115, 116, 97, 108, 108]) = True := eq_true hw
      have e_use : (w.data.toList = [117, 115, 101]) = False := eq_false (by rw [hw]; decide)
      have e_remove : (w.data.toList = [114, 101, 109, 111, 118, 101]) = False := eq_false (by rw [hw]; decide)
      match rest, hz with
      | [], _ => exact p_parsed_bad w _ 7 1 ⟨#[78, 78, 72]⟩ 3 rfl (c_form_install w hw) (Or.inr ⟨by simp only [List.length_cons, List.length_nil]; omega, by first | exact Or.inl (by omega) | (right; simp only [List.length_cons, List.length_nil]; omega)⟩) (by first | rfl | simp only [evS, evK, e_tick, e_stop, e_come, e_close, e_copy, e_turn, e_push, e_install, e_use, e_remove, if_false, if_true, ite_self])
      | [a], _ => exact p_parsed_bad w _ 7 1 ⟨#[78, 78, 72]⟩ 3 rfl (c_form_install w hw) (Or.inr ⟨by simp only [List.length_cons, List.length_nil]; omega, by first | exact Or.inl (by omega) | (right; simp only [List.length_cons, List.length_nil]; omega)⟩) (by first | rfl | simp only [evS, evK, e_tick, e_stop, e_come, e_close, e_copy, e_turn, e_push, e_install, e_use, e_remove, if_false, if_true, ite_self])
      | [a, b], _ => exact p_parsed_bad w _ 7 1 ⟨#[78, 78, 72]⟩ 3 rfl (c_form_install w hw) (Or.inr ⟨by simp only [List.length_cons, List.length_nil]; omega, by first | exact Or.inl (by omega) | (right; simp only [List.length_cons, List.length_nil]; omega)⟩) (by first | rfl | simp only [evS, evK, e_tick, e_stop, e_come, e_close, e_copy, e_turn, e_push, e_install, e_use, e_remove, if_false, if_true, ite_self])
      | [a, b, c], hz => exact p_parsed_install w a b c hw hz
      | a :: b :: c :: d :: r, _ => exact p_parsed_bad w _ 7 1 ⟨#[78, 78, 72]⟩ 3 rfl (c_form_install w hw) (Or.inr ⟨by simp only [List.length_cons, List.length_nil]; omega, by first | exact Or.inl (by omega) | (right; simp only [List.length_cons, List.length_nil]; omega)⟩) (by first | rfl | simp only [evS, evK, e_tick, e_stop, e_come, e_close, e_copy, e_turn, e_push, e_install, e_use, e_remove, if_false, if_true, ite_self])
    by_cases n_use : w.data.toList = [117, 115, 101]
    · have hw := n_use
      have e_tick : (w.data.toList = [116, 105, 99, 107]) = False := eq_false (by rw [hw]; decide)
      have e_stop : (w.data.toList = [115, 116, 111, 112]) = False := eq_false (by rw [hw]; decide)
      have e_come : (w.data.toList = [99, 111, 109, 101]) = False := eq_false (by rw [hw]; decide)
      have e_close : (w.data.toList = [108, 111, 115, 101]) = False := eq_false (by rw [hw]; decide)
      have e_copy : (w.data.toList = [99, 111, 112, 121]) = False := eq_false (by rw [hw]; decide)
      have e_turn : (w.data.toList = [116, 117, 114, 110]) = False := eq_false (by rw [hw]; decide)
      have e_push : (w.data.toList = [112, 117, 115, 104]) = False := eq_false (by rw [hw]; decide)
      have e_install : (w.data.toList = [105, 110, 115, 116, 97, 108, 108]) = False := eq_false (by rw [hw]; decide)
      have e_use : (w.data.toList = [117, 115, 101]) = True := eq_true hw
      have e_remove : (w.data.toList = [114, 101, 109, 111, 118, 101]) = False := eq_false (by rw [hw]; decide)
      match rest, hz with
      | [], _ => exact p_parsed_bad w _ 7 2 ⟨#[78, 78]⟩ 2 rfl (c_form_use w hw) (Or.inr ⟨by simp only [List.length_cons, List.length_nil]; omega, by first | exact Or.inl (by omega) | (right; simp only [List.length_cons, List.length_nil]; omega)⟩) (by first | rfl | simp only [evS, evK, e_tick, e_stop, e_come, e_close, e_copy, e_turn, e_push, e_install, e_use, e_remove, if_false, if_true, ite_self])
      | [a], _ => exact p_parsed_bad w _ 7 2 ⟨#[78, 78]⟩ 2 rfl (c_form_use w hw) (Or.inr ⟨by simp only [List.length_cons, List.length_nil]; omega, by first | exact Or.inl (by omega) | (right; simp only [List.length_cons, List.length_nil]; omega)⟩) (by first | rfl | simp only [evS, evK, e_tick, e_stop, e_come, e_close, e_copy, e_turn, e_push, e_install, e_use, e_remove, if_false, if_true, ite_self])
      | [a, b], hz => exact p_parsed_use w a b hw hz
      | [a, b, c], _ => exact p_parsed_bad w _ 7 2 ⟨#[78, 78]⟩ 2 rfl (c_form_use w hw) (Or.inr ⟨by simp only [List.length_cons, List.length_nil]; omega, by first | exact Or.inl (by omega) | (right; simp only [List.length_cons, List.length_nil]; omega)⟩) (by first | rfl | simp only [evS, evK, e_tick, e_stop, e_come, e_close, e_copy, e_turn, e_push, e_install, e_use, e_remove, if_false, if_true, ite_self])
      | a :: b :: c :: d :: r, _ => exact p_parsed_bad w _ 7 2 ⟨#[78, 78]⟩ 2 rfl (c_form_use w hw) (Or.inr ⟨by simp only [List.length_cons, List.length_nil]; omega, by first | exact Or.inl (by omega) | (right; simp only [List.length_cons, List.length_nil]; omega)⟩) (by first | rfl | simp only [evS, evK, e_tick, e_stop, e_come, e_close, e_copy, e_turn, e_push, e_install, e_use, e_remove, if_false, if_true, ite_self])
    by_cases n_remove : w.data.toList = [114, 101, 109, 111, 118, 101]
    · have hw := n_remove
      have e_tick : (w.data.toList = [116, 105, 99, 107]) = False := eq_false (by rw [hw]; decide)
      have e_stop : (w.data.toList = [115, 116, 111, 112]) = False := eq_false (by rw [hw]; decide)
      have e_come : (w.data.toList = [99, 111, 109, 101]) = False := eq_false (by rw [hw]; decide)
      have e_close : (w.data.toList = [108, 111, 115, 101]) = False := eq_false (by rw [hw]; decide)
      have e_copy : (w.data.toList = [99, 111, 112, 121]) = False := eq_false (by rw [hw]; decide)
      have e_turn : (w.data.toList = [116, 117, 114, 110]) = False := eq_false (by rw [hw]; decide)
      have e_push : (w.data.toList = [112, 117, 115, 104]) = False := eq_false (by rw [hw]; decide)
      have e_install : (w.data.toList = [105, 110, 115, 116, 97, 108, 108]) = False := eq_false (by rw [hw]; decide)
      have e_use : (w.data.toList = [117, 115, 101]) = False := eq_false (by rw [hw]; decide)
      have e_remove : (w.data.toList = [114, 101, 109, 111, 118, 101]) = True := eq_true hw
      match rest, hz with
      | [], _ => exact p_parsed_bad w _ 7 3 ⟨#[78, 78]⟩ 2 rfl (c_form_remove w hw) (Or.inr ⟨by simp only [List.length_cons, List.length_nil]; omega, by first | exact Or.inl (by omega) | (right; simp only [List.length_cons, List.length_nil]; omega)⟩) (by first | rfl | simp only [evS, evK, e_tick, e_stop, e_come, e_close, e_copy, e_turn, e_push, e_install, e_use, e_remove, if_false, if_true, ite_self])
      | [a], _ => exact p_parsed_bad w _ 7 3 ⟨#[78, 78]⟩ 2 rfl (c_form_remove w hw) (Or.inr ⟨by simp only [List.length_cons, List.length_nil]; omega, by first | exact Or.inl (by omega) | (right; simp only [List.length_cons, List.length_nil]; omega)⟩) (by first | rfl | simp only [evS, evK, e_tick, e_stop, e_come, e_close, e_copy, e_turn, e_push, e_install, e_use, e_remove, if_false, if_true, ite_self])
      | [a, b], hz => exact p_parsed_remove w a b hw hz
      | [a, b, c], _ => exact p_parsed_bad w _ 7 3 ⟨#[78, 78]⟩ 2 rfl (c_form_remove w hw) (Or.inr ⟨by simp only [List.length_cons, List.length_nil]; omega, by first | exact Or.inl (by omega) | (right; simp only [List.length_cons, List.length_nil]; omega)⟩) (by first | rfl | simp only [evS, evK, e_tick, e_stop, e_come, e_close, e_copy, e_turn, e_push, e_install, e_use, e_remove, if_false, if_true, ite_self])
      | a :: b :: c :: d :: r, _ => exact p_parsed_bad w _ 7 3 ⟨#[78, 78]⟩ 2 rfl (c_form_remove w hw) (Or.inr ⟨by simp only [List.length_cons, List.length_nil]; omega, by first | exact Or.inl (by omega) | (right; simp only [List.length_cons, List.length_nil]; omega)⟩) (by first | rfl | simp only [evS, evK, e_tick, e_stop, e_come, e_close, e_copy, e_turn, e_push, e_install, e_use, e_remove, if_false, if_true, ite_self])
    have e_tick : (w.data.toList = [116, 105, 99, 107]) = False := eq_false n_tick
    have e_stop : (w.data.toList = [115, 116, 111, 112]) = False := eq_false n_stop
    have e_come : (w.data.toList = [99, 111, 109, 101]) = False := eq_false n_come
    have e_close : (w.data.toList = [108, 111, 115, 101]) = False := eq_false n_close
    have e_copy : (w.data.toList = [99, 111, 112, 121]) = False := eq_false n_copy
    have e_turn : (w.data.toList = [116, 117, 114, 110]) = False := eq_false n_turn
    have e_push : (w.data.toList = [112, 117, 115, 104]) = False := eq_false n_push
    have e_install : (w.data.toList = [105, 110, 115, 116, 97, 108, 108]) = False := eq_false n_install
    have e_use : (w.data.toList = [117, 115, 101]) = False := eq_false n_use
    have e_remove : (w.data.toList = [114, 101, 109, 111, 118, 101]) = False := eq_false n_remove
    refine p_parsed_bad w rest 0 0 ⟨#[]⟩ 0 rfl (c_form_none w n_tick n_stop n_come n_close n_copy n_turn n_push n_install n_use n_remove) (Or.inl rfl) ?_
    match rest with
    | [] => first | rfl | simp only [evS, evK, e_tick, e_stop, e_come, e_close, e_copy, e_turn, e_push, e_install, e_use, e_remove, if_false, if_true, ite_self]
    | [a] => first | rfl | simp only [evS, evK, e_tick, e_stop, e_come, e_close, e_copy, e_turn, e_push, e_install, e_use, e_remove, if_false, if_true, ite_self]
    | [a, b] => first | rfl | simp only [evS, evK, e_tick, e_stop, e_come, e_close, e_copy, e_turn, e_push, e_install, e_use, e_remove, if_false, if_true, ite_self]
    | [a, b, c] => first | rfl | simp only [evS, evK, e_tick, e_stop, e_come, e_close, e_copy, e_turn, e_push, e_install, e_use, e_remove, if_false, if_true, ite_self]
    | a :: b :: c :: d :: r => first | rfl | simp only [evS, evK, e_tick, e_stop, e_come, e_close, e_copy, e_turn, e_push, e_install, e_use, e_remove, if_false, if_true, ite_self]
theorem c_iparsed (l : List ByteArray) (hz : ∀ z ∈ l, z.size ≤ 1048576) : ∃ e : EventM, (∀ x, evS l = some x → e = x) ∧ ∀ H, call Tryz.prog cfg0 0 32 [textsL l] H = some (.tup [.agg [.v (.int .i64 e.Kind), .v (.int .i64 e.Node), .v (.int .i64 e.At), .v (.int .i64 e.Mask), bytesL e.Data, .v (.int .i64 e.Op), .v (.int .i64 e.Key.Id), bytesL e.Key.Bytes], .v (.bool (evS l).isSome)], H) := by
  obtain ⟨v, cl, ⟨e, rfl, he⟩, hp⟩ := p_parsed l hz
  exact ⟨e, he, fun H => call_fz Tryz.func32 rfl ok_parsed rfl (by simp only [fz_cons, fz_nil, fz_texts, and_self]) hp H⟩
end
end Go.Proofs.YtakbbccdnkigpaaGreatDoor
namespace Go.Proofs.YtakbbccdnkigpaaGreatDoor
open Go Go.RowKit Go.Proofs.YtakbbccdnkigpaaGreatDoor.Eng
set_option linter.unusedSimpArgs false
set_option linter.unusedVariables false
set_option maxRecDepth 100000
set_option maxHeartbeats 2000000
noncomputable section
theorem cut_piece (c : UInt8) : ∀ l : List UInt8, ∀ q ∈ cutL c l, q.length ≤ l.length := by
  intro l
  induction l with
  | nil => intro q hq; simp [cutL] at hq; subst hq; simp
  | cons b l ih =>
    intro q hq
    unfold cutL at hq
    split at hq
    · rcases List.mem_cons.1 hq with rfl | hq
      · simp
      · have := ih q hq; simp only [List.length_cons]; omega
    · split at hq
      · simp only [List.mem_singleton] at hq; subst hq; simp
      · rename_i h
        rcases List.mem_cons.1 hq with rfl | hq
        · have := ih _ (by rw [h]; exact List.mem_cons_self ..); simp only [List.length_cons]; omega
        · have := ih q (by rw [h]; exact List.mem_cons_of_mem _ hq); simp only [List.length_cons]; omega
theorem word_size (l : List UInt8) : ∀ z ∈ (wordsL l).map ba, z.size ≤ l.length := by
  intro z hz
  obtain ⟨q, hq, rfl⟩ := List.mem_map.1 hz
  have := cut_piece 32 l q (List.mem_filter.1 hq).1
  show (q.toArray).size ≤ _
  simpa using this
def evZ : EventM := ⟨0, 0, 0, 0, [], 0, ⟨0, []⟩⟩
def eoC (w : List UInt8) : Int := if 3000 < w.length then 2 else match evS ((wordsL w).map ba) with
  | none => 5
  | some e => evFault e
def eoE (w : List UInt8) : EventM := if 3000 < w.length then evZ else match evS ((wordsL w).map ba) with
  | none => evZ
  | some e => if evFault e = 0 then e else evZ
def eoR (c : Int) (e : EventM) : AV := .agg [.v (.int .i64 c), .v (.int .i64 e.Kind), .v (.int .i64 e.Node), .v (.int .i64 e.At), .v (.int .i64 e.Mask), bytesL e.Data, .v (.int .i64 e.Op), .v (.int .i64 e.Key.Id), bytesL e.Key.Bytes]
theorem dB11 {H : Hp} (d : List Int) : deep H 11 (bytesL d) = some (bytesL d) := (bytesL_fz 9 d).1 H
theorem dN11 {H : Hp} : deep H 11 (.v (.slice none 0 0)) = some (bytesL []) := rfl
theorem eo_deep {H : Hp} {c k n a m p i : Int} {x y : AV} {d e : List Int} (hx : deep H 11 x = some (bytesL d)) (hy : deep H 11 y = some (bytesL e)) :
    deep H depthD (.agg [.v (.int .i64 c), .v (.int .i64 k), .v (.int .i64 n), .v (.int .i64 a), .v (.int .i64 m), x, .v (.int .i64 p), .v (.int .i64 i), y]) = some (eoR c ⟨k, n, a, m, d, p, ⟨i, e⟩⟩) := by
  have h1 : [AV.v (.int .i64 c), .v (.int .i64 k), .v (.int .i64 n), .v (.int .i64 a), .v (.int .i64 m), x, .v (.int .i64 p), .v (.int .i64 i), y].mapM (deep H 11) = some [AV.v (.int .i64 c), .v (.int .i64 k), .v (.int .i64 n), .v (.int .i64 a), .v (.int .i64 m), bytesL d, .v (.int .i64 p), .v (.int .i64 i), bytesL e] :=
    mapM_c rfl (mapM_c rfl (mapM_c rfl (mapM_c rfl (mapM_c rfl (mapM_c hx (mapM_c rfl (mapM_c rfl (mapM_c hy mapM_n))))))))
  show (List.mapM (deep H 11) _).map AV.agg = _
  rw [h1]; rfl
theorem ok_sEventOf : fnOk Tryz.prog cfg0 5 Tryz.f5 = true := by kernel_rfl
theorem p_sEventOf (z : ByteArray) (hs : z.size ≤ 1048576) : ∃ cl, pure Tryz.prog cfg0 5 Tryz.f5 [.v (.string z)] = some (eoR (eoC z.data.toList) (eoE z.data.toList), cl) := by
  have key : ∃ v cl, v = (eoR (eoC z.data.toList) (eoE z.data.toList) : AV) ∧ pure Tryz.prog cfg0 5 Tryz.f5 [.v (.string z)] = some (v, cl) := by
    refine pure_ex (rs := [.cell 2 28]) rfl rfl ?_
    have hp0 : ∀ b, cfg0.pol 5 b = 0 := fun b => rfl
    have hsz : z.size = z.data.toList.length := by rw [ByteArray.size]; simp
    by_cases hbig : 3000 < z.data.toList.length
    · have hbI : 3000 < (z.size : Int) := by omega
      rw [show eoC z.data.toList = 2 from if_pos hbig, show eoE z.data.toList = evZ from if_pos hbig]
      repeat' (first | ((first | refine wSeqr ?_ | refine wIf ?_ | refine wReg ?_ | (refine wRet ?_; (try simp only [thenQ, blockQ]); refine ends_by ?_)); intro xx hx; have hc := trivial; (repeat' (simp only [hc, Nat.reduceBEq, go_sem, Nat.reduceAdd, Nat.reduceMul, Nat.reduceSub, Nat.reduceEqDiff, Nat.reduceLT, Nat.reduceLeDiff, Int.reduceEq, Int.reduceLT, Int.reduceLE, reduceIte, aresults, aresult, hp0, hbI] at hx; (try (rw [guardL_if] at hx; split at hx <;> rename_i hc)))); all_goals (subst hx; first | (refine ⟨_, rfl, fun ht => ?_, fun ht => ?_⟩ <;> (try simp only [bbs] at ht)) | (refine ⟨_, rfl, ?_⟩; (try simp only [tupOf])))) | refine wSkip ?_ | (refine wExit ?_; simp only [thenQ, blockQ, reduceIte, Nat.reduceEqDiff]) | refine wSeq ?_ | refine wBlock ?_)
      all_goals try (exfalso; (try simp only [bbs] at *); first | omega | exact absurd trivial (by assumption))
      all_goals exact dirty (eo_deep dN11 dN11)
    have hbI : ¬ 3000 < (z.size : Int) := by omega
    have hw := c_sl14Words z hs
    obtain ⟨e, he, ce⟩ := c_l14Event ((wordsL z.data.toList).map ba) (fun q hq => by have := word_size _ q hq; omega)
    rw [show eoC z.data.toList = match evS ((wordsL z.data.toList).map ba) with | none => 5 | some e => evFault e from if_neg hbig]
    rw [show eoE z.data.toList = match evS ((wordsL z.data.toList).map ba) with | none => evZ | some e => if evFault e = 0 then e else evZ from if_neg hbig]
    generalize evS ((wordsL z.data.toList).map ba) = o at *
    cases o with
    | none =>
      simp only [Option.isSome_none] at ce
      repeat' (first | ((first | refine wSeqr ?_ | refine wIf ?_ | refine wReg ?_ | (refine wRet ?_; (try simp only [thenQ, blockQ]); refine ends_by ?_)); intro xx hx; have hc := trivial; (repeat' (simp only [hc, Nat.reduceBEq, go_sem, Nat.reduceAdd, Nat.reduceMul, Nat.reduceSub, Nat.reduceEqDiff, Nat.reduceLT, Nat.reduceLeDiff, Int.reduceEq, Int.reduceLT, Int.reduceLE, reduceIte, aresults, aresult, hp0, hbI, hw, ce, Bool.not_false] at hx; (try (rw [guardL_if] at hx; split at hx <;> rename_i hc)))); all_goals (subst hx; first | (refine ⟨_, rfl, fun ht => ?_, fun ht => ?_⟩ <;> (try simp only [bbs] at ht)) | (refine ⟨_, rfl, ?_⟩; (try simp only [tupOf])))) | refine wSkip ?_ | (refine wExit ?_; simp only [thenQ, blockQ, reduceIte, Nat.reduceEqDiff]) | refine wSeq ?_ | refine wBlock ?_)
      all_goals try (exfalso; (try simp only [bbs] at *); first | omega | exact absurd trivial (by assumption))
      all_goals exact dirty (eo_deep dN11 dN11)
    | some x =>
      obtain rfl := he x rfl
      simp only [Option.isSome_some] at ce
      have cf := c_sEventFault e
      by_cases h0 : evFault e = 0
      · rw [h0] at cf
        simp only [h0, if_true]
        repeat' (first | ((first | refine wSeqr ?_ | refine wIf ?_ | refine wReg ?_ | (refine wRet ?_; (try simp only [thenQ, blockQ]); refine ends_by ?_)); intro xx hx; have hc := trivial; (repeat' (simp only [hc, Nat.reduceBEq, go_sem, Nat.reduceAdd, Nat.reduceMul, Nat.reduceSub, Nat.reduceEqDiff, Nat.reduceLT, Nat.reduceLeDiff, Int.reduceEq, Int.reduceLT, Int.reduceLE, reduceIte, aresults, aresult, hp0, hbI, hw, ce, cf, Bool.not_true, not_true_eq_false, decide_false] at hx; (try (rw [guardL_if] at hx; split at hx <;> rename_i hc)))); all_goals (subst hx; first | (refine ⟨_, rfl, fun ht => ?_, fun ht => ?_⟩ <;> (try simp only [bbs] at ht)) | (refine ⟨_, rfl, ?_⟩; (try simp only [tupOf])))) | refine wSkip ?_ | (refine wExit ?_; simp only [thenQ, blockQ, reduceIte, Nat.reduceEqDiff]) | refine wSeq ?_ | refine wBlock ?_)
        all_goals try (exfalso; (try simp only [bbs] at *); first | omega | exact absurd trivial (by assumption))
        all_goals exact dirty (eo_deep (dB11 _) (dB11 _))
      · simp only [h0, if_false]
        repeat' (first | ((first | refine wSeqr ?_ | refine wIf ?_ | refine wReg ?_ | (refine wRet ?_; (try simp only [thenQ, blockQ]); refine ends_by ?_)); intro xx hx; have hc := trivial; (repeat' (simp only [hc, Nat.reduceBEq, go_sem, Nat.reduceAdd, Nat.reduceMul, Nat.reduceSub, Nat.reduceEqDiff, Nat.reduceLT, Nat.reduceLeDiff, Int.reduceEq, Int.reduceLT, Int.reduceLE, reduceIte, aresults, aresult, hp0, hbI, hw, ce, cf, h0, Bool.not_true, not_false_eq_true, decide_true] at hx; (try (rw [guardL_if] at hx; split at hx <;> rename_i hc)))); all_goals (subst hx; first | (refine ⟨_, rfl, fun ht => ?_, fun ht => ?_⟩ <;> (try simp only [bbs] at ht)) | (refine ⟨_, rfl, ?_⟩; (try simp only [tupOf])))) | refine wSkip ?_ | (refine wExit ?_; simp only [thenQ, blockQ, reduceIte, Nat.reduceEqDiff]) | refine wSeq ?_ | refine wBlock ?_)
        all_goals try (exfalso; (try simp only [bbs] at *); first | omega | exact absurd trivial (by assumption))
        all_goals exact dirty (eo_deep dN11 dN11)
  obtain ⟨v, cl, rfl, hp⟩ := key
  exact ⟨cl, hp⟩
theorem c_sEventOf (z : ByteArray) (hs : z.size ≤ 1048576) : ∀ H, call Tryz.prog cfg0 0 5 [.v (.string z)] H = some (eoR (eoC z.data.toList) (eoE z.data.toList), H) := fun H => by
  obtain ⟨cl, hp⟩ := p_sEventOf z hs
  exact call_fz Tryz.func5 rfl ok_sEventOf rfl (by simp only [fz_cons, fz_nil, go_sem, and_self]) hp H

theorem ok_iEventOf : fnOk Tryz.prog cfg0 6 Tryz.f6 = true := by kernel_rfl
theorem p_iEventOf (z : ByteArray) (hs : z.size ≤ 1048576) : ∃ cl, pure Tryz.prog cfg0 6 Tryz.f6 [.v (.string z)] = some (eoR (eoC z.data.toList) (eoE z.data.toList), cl) := by
  have key : ∃ v cl, v = (eoR (eoC z.data.toList) (eoE z.data.toList) : AV) ∧ pure Tryz.prog cfg0 6 Tryz.f6 [.v (.string z)] = some (v, cl) := by
    refine pure_ex (rs := [.cell 2 28]) rfl rfl ?_
    have hp0 : ∀ b, cfg0.pol 6 b = 0 := fun b => rfl
    have hw := c_iWordsOf z hs
    by_cases hbig : 3000 < z.data.toList.length
    · rw [show eoC z.data.toList = 2 from if_pos hbig, show eoE z.data.toList = evZ from if_pos hbig]
      rw [show wC z.data.toList = 2 from if_pos hbig] at hw
      repeat' (first | ((first | refine wSeqr ?_ | refine wIf ?_ | refine wReg ?_ | (refine wRet ?_; (try simp only [thenQ, blockQ]); refine ends_by ?_)); intro xx hx; have hc := trivial; (repeat' (simp only [hc, Nat.reduceBEq, go_sem, Nat.reduceAdd, Nat.reduceMul, Nat.reduceSub, Nat.reduceEqDiff, Nat.reduceLT, Nat.reduceLeDiff, Int.reduceEq, Int.reduceLT, Int.reduceLE, reduceIte, aresults, aresult, hp0, hw, not_false_eq_true, decide_true] at hx; (try (rw [guardL_if] at hx; split at hx <;> rename_i hc)))); all_goals (subst hx; first | (refine ⟨_, rfl, fun ht => ?_, fun ht => ?_⟩ <;> (try simp only [bbs] at ht)) | (refine ⟨_, rfl, ?_⟩; (try simp only [tupOf])))) | refine wSkip ?_ | (refine wExit ?_; simp only [thenQ, blockQ, reduceIte, Nat.reduceEqDiff]) | refine wSeq ?_ | refine wBlock ?_)
      all_goals try (exfalso; (try simp only [bbs] at *); first | omega | exact absurd trivial (by assumption))
      all_goals exact dirty (eo_deep dN11 dN11)
    rw [show wC z.data.toList = 0 from if_neg hbig, show wW z.data.toList = (wordsL z.data.toList).map ba from if_neg hbig] at hw
    have hsz : z.size = z.data.toList.length := by rw [ByteArray.size]; simp
    obtain ⟨e, he, ce⟩ := c_iparsed ((wordsL z.data.toList).map ba) (fun q hq => by have := word_size _ q hq; omega)
    rw [show eoC z.data.toList = match evS ((wordsL z.data.toList).map ba) with | none => 5 | some e => evFault e from if_neg hbig]
    rw [show eoE z.data.toList = match evS ((wordsL z.data.toList).map ba) with | none => evZ | some e => if evFault e = 0 then e else evZ from if_neg hbig]
    generalize evS ((wordsL z.data.toList).map ba) = o at *
    have i00 : ((0 : Int) = 0) = True := by simp
    cases o with
    | none =>
      simp only [Option.isSome_none] at ce
      repeat' (first | ((first | refine wSeqr ?_ | refine wIf ?_ | refine wReg ?_ | (refine wRet ?_; (try simp only [thenQ, blockQ]); refine ends_by ?_)); intro xx hx; have hc := trivial; (repeat' (simp only [hc, Nat.reduceBEq, go_sem, Nat.reduceAdd, Nat.reduceMul, Nat.reduceSub, Nat.reduceEqDiff, Nat.reduceLT, Nat.reduceLeDiff, Int.reduceEq, Int.reduceLT, Int.reduceLE, reduceIte, aresults, aresult, hp0, hw, ce, i00, Bool.not_false, not_true_eq_false, decide_false] at hx; (try (rw [guardL_if] at hx; split at hx <;> rename_i hc)))); all_goals (subst hx; first | (refine ⟨_, rfl, fun ht => ?_, fun ht => ?_⟩ <;> (try simp only [bbs] at ht)) | (refine ⟨_, rfl, ?_⟩; (try simp only [tupOf])))) | refine wSkip ?_ | (refine wExit ?_; simp only [thenQ, blockQ, reduceIte, Nat.reduceEqDiff]) | refine wSeq ?_ | refine wBlock ?_)
      all_goals try (exfalso; (try simp only [bbs] at *); first | omega | exact absurd trivial (by assumption))
      all_goals exact dirty (eo_deep dN11 dN11)
    | some x =>
      obtain rfl := he x rfl
      simp only [Option.isSome_some] at ce
      have cf := c_iEventFault e
      by_cases h0 : evFault e = 0
      · rw [h0] at cf
        simp only [h0, if_true]
        repeat' (first | ((first | refine wSeqr ?_ | refine wIf ?_ | refine wReg ?_ | (refine wRet ?_; (try simp only [thenQ, blockQ]); refine ends_by ?_)); intro xx hx; have hc := trivial; (repeat' (simp only [hc, Nat.reduceBEq, go_sem, Nat.reduceAdd, Nat.reduceMul, Nat.reduceSub, Nat.reduceEqDiff, Nat.reduceLT, Nat.reduceLeDiff, Int.reduceEq, Int.reduceLT, Int.reduceLE, reduceIte, aresults, aresult, hp0, hw, ce, cf, i00, Bool.not_true, not_true_eq_false, decide_false] at hx; (try (rw [guardL_if] at hx; split at hx <;> rename_i hc)))); all_goals (subst hx; first | (refine ⟨_, rfl, fun ht => ?_, fun ht => ?_⟩ <;> (try simp only [bbs] at ht)) | (refine ⟨_, rfl, ?_⟩; (try simp only [tupOf])))) | refine wSkip ?_ | (refine wExit ?_; simp only [thenQ, blockQ, reduceIte, Nat.reduceEqDiff]) | refine wSeq ?_ | refine wBlock ?_)
        all_goals try (exfalso; (try simp only [bbs] at *); first | omega | exact absurd trivial (by assumption))
        all_goals exact dirty (eo_deep (dB11 _) (dB11 _))
      · simp only [h0, if_false]
        repeat' (first | ((first | refine wSeqr ?_ | refine wIf ?_ | refine wReg ?_ | (refine wRet ?_; (try simp only [thenQ, blockQ]); refine ends_by ?_)); intro xx hx; have hc := trivial; (repeat' (simp only [hc, Nat.reduceBEq, go_sem, Nat.reduceAdd, Nat.reduceMul, Nat.reduceSub, Nat.reduceEqDiff, Nat.reduceLT, Nat.reduceLeDiff, Int.reduceEq, Int.reduceLT, Int.reduceLE, reduceIte, aresults, aresult, hp0, hw, ce, cf, h0, i00, Bool.not_true, not_true_eq_false, not_false_eq_true, decide_true, decide_false] at hx; (try (rw [guardL_if] at hx; split at hx <;> rename_i hc)))); all_goals (subst hx; first | (refine ⟨_, rfl, fun ht => ?_, fun ht => ?_⟩ <;> (try simp only [bbs] at ht)) | (refine ⟨_, rfl, ?_⟩; (try simp only [tupOf])))) | refine wSkip ?_ | (refine wExit ?_; simp only [thenQ, blockQ, reduceIte, Nat.reduceEqDiff]) | refine wSeq ?_ | refine wBlock ?_)
        all_goals try (exfalso; (try simp only [bbs] at *); first | omega | exact absurd trivial (by assumption))
        all_goals exact dirty (eo_deep dN11 dN11)
  obtain ⟨v, cl, rfl, hp⟩ := key
  exact ⟨cl, hp⟩
theorem c_iEventOf (z : ByteArray) (hs : z.size ≤ 1048576) : ∀ H, call Tryz.prog cfg0 0 6 [.v (.string z)] H = some (eoR (eoC z.data.toList) (eoE z.data.toList), H) := fun H => by
  obtain ⟨cl, hp⟩ := p_iEventOf z hs
  exact call_fz Tryz.func6 rfl ok_iEventOf rfl (by simp only [fz_cons, fz_nil, go_sem, and_self]) hp H

end
end Go.Proofs.YtakbbccdnkigpaaGreatDoor
namespace Go.Proofs.YtakbbccdnkigpaaGreatDoor
open Go Go.RowKit Go.Proofs.YtakbbccdnkigpaaGreatDoor.Eng
set_option linter.unusedSimpArgs false
set_option linter.unusedVariables false
set_option maxRecDepth 100000
set_option maxHeartbeats 2000000
noncomputable section
def hx2 (z : Int) : List Int := [((hexB (z / 16).toNat).toNat : Int), ((hexB (z % 16).toNat).toNat : Int)]
def hxL (l : List Int) : List Int := l.flatMap hx2
theorem hxL_take {l : List Int} {j : Nat} {z : Int} (h : l[j]? = some z) : hxL (l.take (j + 1)) = hxL (l.take j) ++ hx2 z := by
  unfold hxL; rw [at_take h, List.flatMap_append]; simp
theorem hxL_len (l : List Int) : (hxL l).length = 2 * l.length := by
  induction l with
  | nil => rfl
  | cons a l ih => unfold hxL at ih ⊢; rw [List.flatMap_cons, List.length_append, ih, List.length_cons]; show 2 + _ = _; omega
theorem conv_acc {H : Hp} {x : AV} {l : List Int} {n : Nat} (h : RAcc H x 1 (l.map cell) n) (hn : n = l.length) : aconv Tryz.prog H 22 9 x = some (.v (.string (strOf l))) := by
  subst hn
  have hb := bytesIn_cells l
  rcases h.2 with ⟨h0, e⟩ | ⟨p, -, rfl, hh⟩
  · have : l = [] := List.length_eq_zero_iff.1 h0
    subst this
    rcases e with rfl | rfl
    · simp [aconv, u22, u9, u5, bytesIn, strOf]
    · simp [aconv, u22, u9, u5, bytesIn, strOf]
  · have ht : List.take l.length (l.map cell) = l.map cell := List.take_of_length_le (by simp)
    simp [aconv, u22, u9, u5, hh, ht, hb, strOf]
theorem ok_sl14Text : fnOk Tryz.prog cfg0 41 Tryz.f41 = true := by kernel_rfl
theorem p_sl14Text (l : List Int) (hb : Eng.Bytes l) (hl : l.length ≤ 1048576) : pure Tryz.prog cfg0 41 Tryz.f41 [bytesL l] = some (.v (.string (strOf (hxL l))), true) := by
  refine pure_wp (rs := [.tmp 2]) rfl rfl ?_
  have hp0 : ∀ b, cfg0.pol 41 b = 0 := fun b => rfl
  repeat' (first | ((first | refine wSeqr ?_ | refine wIf ?_ | refine wReg ?_ | (refine wRet ?_; (try simp only [thenQ, blockQ]); refine ends_by ?_)); intro xx hx; have hc := trivial; (repeat' (simp only [hc, Nat.reduceBEq, go_sem, Nat.reduceAdd, Nat.reduceMul, Nat.reduceSub, Nat.reduceEqDiff, Nat.reduceLT, Nat.reduceLeDiff, Int.reduceEq, Int.reduceLT, Int.reduceLE, reduceIte, aresults, aresult, hp0] at hx; (try (rw [guardL_if] at hx; split at hx <;> rename_i hc)))); all_goals (subst hx; first | (refine ⟨_, rfl, fun ht => ?_, fun ht => ?_⟩ <;> (try simp only [bbs] at ht)) | (refine ⟨_, rfl, ?_⟩; (try simp only [tupOf])))) | refine wSkip ?_ | (refine wExit ?_; simp only [thenQ, blockQ, reduceIte, Nat.reduceEqDiff]) | refine wSeq ?_ | refine wBlock ?_)
  refine wLoop (fun k s => ∃ (j : Nat) (x : AV), j + k = l.length ∧ s.1 0 = bytesL l ∧ s.1 3 = x ∧ s.1 4 = .v (.int .i64 (j : Nat)) ∧ (RAcc s.2 x 1 ((hxL (l.take j)).map cell) (2 * j))) (fun k s hI => ?_) (l.length) _ ?_
  · obtain ⟨e, H⟩ := s
    obtain ⟨j, x, hj, h0, h3, h4, hr⟩ := hI
    simp only at h0 h3 h4 hr
    by_cases hlt : j < l.length
    · obtain ⟨z, hg, -, hz⟩ := at_drop hlt
      have hzb := hb z hz
      obtain ⟨n, rfl⟩ : ∃ n : Nat, z = n := ⟨z.toNat, by omega⟩
      have gg' : (l.map fun z => [AV.v (.int .u8 z)])[j]? = some [.v (.int .u8 n)] := by rw [List.getElem?_map, hg]; rfl
      have hrt := hxL_take hg
      have hxx : hx2 n = [((hexB (n / 16)).toNat : Int), ((hexB (n % 16)).toNat : Int)] := by
        unfold hx2; rw [show ((n : Int) / 16).toNat = n / 16 by omega, show ((n : Int) % 16).toNat = n % 16 by omega]
      have q1 : Int.tdiv (n : Int) 16 = ((n / 16 : Nat) : Int) := by rw [Int.tdiv_eq_ediv_of_nonneg (by omega)]; omega
      have q2 : Int.tmod (n : Int) 16 = ((n % 16 : Nat) : Int) := by rw [Int.tmod_eq_emod_of_nonneg (by omega)]; omega
      have w1 : IntKind.wrap .u8 ((n / 16 : Nat) : Int) = ((n / 16 : Nat) : Int) := wrap_u8 (by omega) (by omega)
      have g1 := hexA_at (show n / 16 < 16 by omega)
      have g2 := hexA_at (show n % 16 < 16 by omega)
      have g1' := hexA_at' (show n / 16 < 16 by omega)
      have g2' := hexA_at' (show n % 16 < 16 by omega)
      have hjI : ((j : Nat) : Int) < (l.length : Int) := by omega
      have w4 : IntKind.wrap .i64 ((j : Nat) + 1 : Int) = ((j + 1 : Nat) : Int) := wrap_succ (by omega)
      rw [hxx] at hrt
      clear hxx
      generalize (n / 16 : Nat) = qd at *
      generalize (n % 16 : Nat) = rd at *
      repeat' ((fail_if_success (first | refine wAt 5 ?_)); first | ((first | refine wSeqr ?_ | refine wIf ?_ | refine wReg ?_ | (refine wRet ?_; (try simp only [thenQ, blockQ]); refine ends_by ?_)); intro xx hx; have hc := trivial; (repeat' (simp only [hc, Nat.reduceBEq, go_sem, Nat.reduceAdd, Nat.reduceMul, Nat.reduceSub, Nat.reduceEqDiff, Nat.reduceLT, Nat.reduceLeDiff, Int.reduceEq, Int.reduceLT, Int.reduceLE, reduceIte, aresults, aresult, hp0, h0, h3, h4, hjI, List.length_map, bytesL] at hx; (try (rw [guardL_if] at hx; split at hx <;> rename_i hc)))); all_goals (subst hx; first | (refine ⟨_, rfl, fun ht => ?_, fun ht => ?_⟩ <;> (try simp only [bbs] at ht)) | (refine ⟨_, rfl, ?_⟩; (try simp only [tupOf])))) | refine wSkip ?_ | (refine wExit ?_; simp only [thenQ, blockQ, reduceIte, Nat.reduceEqDiff]) | refine wSeq ?_ | refine wBlock ?_)
      all_goals try (exfalso; (try simp only [bbs] at *); first | omega | exact absurd trivial (by assumption))
      (first | refine wSeqr ?_ | refine wReg ?_); intro xx hx; have hc := trivial; (repeat' (simp only [hc, Nat.reduceBEq, go_sem, Nat.reduceAdd, Nat.reduceMul, Nat.reduceSub, Nat.reduceEqDiff, Nat.reduceLT, Nat.reduceLeDiff, Int.reduceEq, Int.reduceLT, Int.reduceLE, reduceIte, aresults, aresult, hp0, h0, h3, h4, bytesL, cell, gg', q1, q2, w1, g1, g2, g1', g2'] at hx; (try (rw [guardL_if] at hx; split at hx <;> rename_i hc)))); generalize hq : aappend Tryz.prog _ _ _ _ = q at hx
      obtain ⟨x', K, rfl, hacc, hg2, hk2, ho2⟩ := app_rows hq el22 zero5 by5 int22 (sz := 1) rfl (by omega) hr (m := 2) rfl (show afirst _ 1 2 (.lst true [[.v (.int .u8 ((hexB qd).toNat : Int))], [.v (.int .u8 ((hexB rd).toNat : Int))]]) = some [.v (.int .u8 ((hexB qd).toNat : Int)), .v (.int .u8 ((hexB rd).toNat : Int))] from rfl) rfl (by omega) (by omega)
      clear hq
      have hc := trivial; (repeat' (simp only [hc, Nat.reduceBEq, go_sem, Nat.reduceAdd, Nat.reduceMul, Nat.reduceSub, Nat.reduceEqDiff, Nat.reduceLT, Nat.reduceLeDiff, Int.reduceEq, Int.reduceLT, Int.reduceLE, reduceIte, aresults, aresult, hp0] at hx; (try (rw [guardL_if] at hx; split at hx <;> rename_i hc)))); all_goals (subst hx; refine ⟨_, rfl, ?_⟩)
      repeat' (first | ((first | refine wSeqr ?_ | refine wIf ?_ | refine wReg ?_ | (refine wRet ?_; (try simp only [thenQ, blockQ]); refine ends_by ?_)); intro xx hx; have hc := trivial; (repeat' (simp only [hc, Nat.reduceBEq, go_sem, Nat.reduceAdd, Nat.reduceMul, Nat.reduceSub, Nat.reduceEqDiff, Nat.reduceLT, Nat.reduceLeDiff, Int.reduceEq, Int.reduceLT, Int.reduceLE, reduceIte, aresults, aresult, hp0, h4, w4] at hx; (try (rw [guardL_if] at hx; split at hx <;> rename_i hc)))); all_goals (subst hx; first | (refine ⟨_, rfl, fun ht => ?_, fun ht => ?_⟩ <;> (try simp only [bbs] at ht)) | (refine ⟨_, rfl, ?_⟩; (try simp only [tupOf])))) | refine wSkip ?_ | (refine wExit ?_; simp only [thenQ, blockQ, reduceIte, Nat.reduceEqDiff]) | refine wSeq ?_ | refine wBlock ?_)
      all_goals try (exfalso; (try simp only [bbs] at *); first | omega | exact absurd trivial (by assumption))
      refine ⟨_, Nat.sub_lt (by omega) Nat.one_pos, j + 1, x', by omega, by simp only [upd_eq, Nat.reduceEqDiff, if_false, if_true, h0, h3, h4], by simp only [upd_eq, Nat.reduceEqDiff, if_false, if_true, h0, h3, h4], by simp only [upd_eq, Nat.reduceEqDiff, if_false, if_true, h0, h3, h4], ?_⟩
      rw [hrt, List.map_append]
      have e2 : 2 * (j + 1) = 2 * j + 2 := by omega
      rw [e2]; exact hacc
    · have hjI : ¬ ((j : Nat) : Int) < (l.length : Int) := by omega
      have hj' : j = l.length := by omega
      rw [hj', List.take_length] at hr
      have hcv := conv_acc hr (by rw [hxL_len])
      repeat' (first | ((first | refine wSeqr ?_ | refine wIf ?_ | refine wReg ?_ | (refine wRet ?_; (try simp only [thenQ, blockQ]); refine ends_by ?_)); intro xx hx; have hc := trivial; (repeat' (simp only [hc, Nat.reduceBEq, go_sem, Nat.reduceAdd, Nat.reduceMul, Nat.reduceSub, Nat.reduceEqDiff, Nat.reduceLT, Nat.reduceLeDiff, Int.reduceEq, Int.reduceLT, Int.reduceLE, reduceIte, aresults, aresult, hp0, h0, h3, h4, hjI, hcv, List.length_map, bytesL] at hx; (try (rw [guardL_if] at hx; split at hx <;> rename_i hc)))); all_goals (subst hx; first | (refine ⟨_, rfl, fun ht => ?_, fun ht => ?_⟩ <;> (try simp only [bbs] at ht)) | (refine ⟨_, rfl, ?_⟩; (try simp only [tupOf])))) | refine wSkip ?_ | (refine wExit ?_; simp only [thenQ, blockQ, reduceIte, Nat.reduceEqDiff]) | refine wSeq ?_ | refine wBlock ?_)
      all_goals try (exfalso; (try simp only [bbs] at *); first | omega | exact absurd trivial (by assumption))
      all_goals exact ⟨rfl, rfl⟩
  · exact ⟨0, .lst true [], by omega, rfl, rfl, rfl, RAcc.lst⟩
theorem c_sl14Text (l : List Int) (hb : Eng.Bytes l) (hl : l.length ≤ 1048576) : ∀ H, call Tryz.prog cfg0 0 41 [bytesL l] H = some (.v (.string (strOf (hxL l))), H) :=
  call_fz Tryz.func41 rfl ok_sl14Text rfl (by simp only [fz_cons, fz_nil, go_sem, and_self]) (p_sl14Text l hb hl)

def hxC (l : List Int) : Int := if 800 < l.length then 2 else 0
def hxT (l : List Int) : ByteArray := if 800 < l.length then ⟨#[]⟩ else strOf (hxL l)
theorem ok_sHexText : fnOk Tryz.prog cfg0 21 Tryz.f21 = true := by kernel_rfl
theorem p_sHexText (l : List Int) (hb : Eng.Bytes l) (hl : l.length ≤ 1048576) : pure Tryz.prog cfg0 21 Tryz.f21 [bytesL l] = some (.agg [.v (.int .i64 (hxC l)), .v (.string (hxT l))], true) := by
  refine pure_wp (rs := [.cell 2 36]) rfl rfl ?_
  have hp0 : ∀ b, cfg0.pol 21 b = 0 := fun b => rfl
  have ct := c_sl14Text l hb hl
  by_cases h8 : 800 < l.length
  · have h8I : 800 < (l.length : Int) := by omega
    unfold hxC hxT
    rw [if_pos h8, if_pos h8]
    repeat' (first | ((first | refine wSeqr ?_ | refine wIf ?_ | refine wReg ?_ | (refine wRet ?_; (try simp only [thenQ, blockQ]); refine ends_by ?_)); intro xx hx; have hc := trivial; (repeat' (simp only [hc, Nat.reduceBEq, go_sem, Nat.reduceAdd, Nat.reduceMul, Nat.reduceSub, Nat.reduceEqDiff, Nat.reduceLT, Nat.reduceLeDiff, Int.reduceEq, Int.reduceLT, Int.reduceLE, reduceIte, aresults, aresult, hp0, h8I, lenD_bytes] at hx; (try (rw [guardL_if] at hx; split at hx <;> rename_i hc)))); all_goals (subst hx; first | (refine ⟨_, rfl, fun ht => ?_, fun ht => ?_⟩ <;> (try simp only [bbs] at ht)) | (refine ⟨_, rfl, ?_⟩; (try simp only [tupOf])))) | refine wSkip ?_ | (refine wExit ?_; simp only [thenQ, blockQ, reduceIte, Nat.reduceEqDiff]) | refine wSeq ?_ | refine wBlock ?_)
    all_goals try (exfalso; (try simp only [bbs] at *); first | omega | exact absurd trivial (by assumption))
    all_goals exact ⟨rfl, rfl⟩
  · have h8I : ¬ 800 < (l.length : Int) := by omega
    unfold hxC hxT
    rw [if_neg h8, if_neg h8]
    repeat' (first | ((first | refine wSeqr ?_ | refine wIf ?_ | refine wReg ?_ | (refine wRet ?_; (try simp only [thenQ, blockQ]); refine ends_by ?_)); intro xx hx; have hc := trivial; (repeat' (simp only [hc, Nat.reduceBEq, go_sem, Nat.reduceAdd, Nat.reduceMul, Nat.reduceSub, Nat.reduceEqDiff, Nat.reduceLT, Nat.reduceLeDiff, Int.reduceEq, Int.reduceLT, Int.reduceLE, reduceIte, aresults, aresult, hp0, h8I, ct, lenD_bytes] at hx; (try (rw [guardL_if] at hx; split at hx <;> rename_i hc)))); all_goals (subst hx; first | (refine ⟨_, rfl, fun ht => ?_, fun ht => ?_⟩ <;> (try simp only [bbs] at ht)) | (refine ⟨_, rfl, ?_⟩; (try simp only [tupOf])))) | refine wSkip ?_ | (refine wExit ?_; simp only [thenQ, blockQ, reduceIte, Nat.reduceEqDiff]) | refine wSeq ?_ | refine wBlock ?_)
    all_goals try (exfalso; (try simp only [bbs] at *); first | omega | exact absurd trivial (by assumption))
    all_goals exact ⟨rfl, rfl⟩
theorem c_sHexText (l : List Int) (hb : Eng.Bytes l) (hl : l.length ≤ 1048576) : ∀ H, call Tryz.prog cfg0 0 21 [bytesL l] H = some (.agg [.v (.int .i64 (hxC l)), .v (.string (hxT l))], H) :=
  call_fz Tryz.func21 rfl ok_sHexText rfl (by simp only [fz_cons, fz_nil, go_sem, and_self]) (p_sHexText l hb hl)

theorem ok_iHexText : fnOk Tryz.prog cfg0 12 Tryz.f12 = true := by kernel_rfl
theorem p_iHexText (l : List Int) (hb : Eng.Bytes l) (hl : l.length ≤ 1048576) : pure Tryz.prog cfg0 12 Tryz.f12 [bytesL l] = some (.agg [.v (.int .i64 (hxC l)), .v (.string (hxT l))], true) := by
  refine pure_wp (rs := [.cell 2 36]) rfl rfl ?_
  have hp0 : ∀ b, cfg0.pol 12 b = 0 := fun b => rfl
  by_cases h8 : 800 < l.length
  · have h8I : 800 < (l.length : Int) := by omega
    unfold hxC hxT
    rw [if_pos h8, if_pos h8]
    repeat' (first | ((first | refine wSeqr ?_ | refine wIf ?_ | refine wReg ?_ | (refine wRet ?_; (try simp only [thenQ, blockQ]); refine ends_by ?_)); intro xx hx; have hc := trivial; (repeat' (simp only [hc, Nat.reduceBEq, go_sem, Nat.reduceAdd, Nat.reduceMul, Nat.reduceSub, Nat.reduceEqDiff, Nat.reduceLT, Nat.reduceLeDiff, Int.reduceEq, Int.reduceLT, Int.reduceLE, reduceIte, aresults, aresult, hp0, h8I, lenD_bytes] at hx; (try (rw [guardL_if] at hx; split at hx <;> rename_i hc)))); all_goals (subst hx; first | (refine ⟨_, rfl, fun ht => ?_, fun ht => ?_⟩ <;> (try simp only [bbs] at ht)) | (refine ⟨_, rfl, ?_⟩; (try simp only [tupOf])))) | refine wSkip ?_ | (refine wExit ?_; simp only [thenQ, blockQ, reduceIte, Nat.reduceEqDiff]) | refine wSeq ?_ | refine wBlock ?_)
    all_goals try (exfalso; (try simp only [bbs] at *); first | omega | exact absurd trivial (by assumption))
    all_goals exact ⟨rfl, rfl⟩
  have h8I : ¬ 800 < (l.length : Int) := by omega
  unfold hxC hxT
  rw [if_neg h8, if_neg h8]
  repeat' (first | ((first | refine wSeqr ?_ | refine wIf ?_ | refine wReg ?_ | (refine wRet ?_; (try simp only [thenQ, blockQ]); refine ends_by ?_)); intro xx hx; have hc := trivial; (repeat' (simp only [hc, Nat.reduceBEq, go_sem, Nat.reduceAdd, Nat.reduceMul, Nat.reduceSub, Nat.reduceEqDiff, Nat.reduceLT, Nat.reduceLeDiff, Int.reduceEq, Int.reduceLT, Int.reduceLE, reduceIte, aresults, aresult, hp0, h8I, lenD_bytes] at hx; (try (rw [guardL_if] at hx; split at hx <;> rename_i hc)))); all_goals (subst hx; first | (refine ⟨_, rfl, fun ht => ?_, fun ht => ?_⟩ <;> (try simp only [bbs] at ht)) | (refine ⟨_, rfl, ?_⟩; (try simp only [tupOf])))) | refine wSkip ?_ | (refine wExit ?_; simp only [thenQ, blockQ, reduceIte, Nat.reduceEqDiff]) | refine wSeq ?_ | refine wBlock ?_)
  refine wLoop (fun k s => ∃ (j : Nat) (x : AV), j + k = l.length ∧ s.1 2 = .ptr 0 0 ∧ s.1 3 = x ∧ s.1 11 = bytesL l ∧ s.1 12 = .v (.int .i64 (l.length : Nat)) ∧ s.1 13 = .v (.int .i64 (j : Nat)) ∧ (RAcc s.2 x 1 ((hxL (l.take j)).map cell) (2 * j)) ∧ (s.2.h 0 = some [.v (.int .i64 0), .v (.string ⟨#[]⟩)] ∧ 0 < s.2.g) ∧ (Off 0 x)) (fun k s hI => ?_) (l.length) _ ?_
  · obtain ⟨e, H⟩ := s
    obtain ⟨j, x, hj, h2, h3, h11, h12, h13, hr, hbl, hof⟩ := hI
    simp only at h2 h3 h11 h12 h13 hr hbl hof
    obtain ⟨hbl, hgl⟩ := hbl
    by_cases hlt : j < l.length
    · obtain ⟨z, hg, -, hz⟩ := at_drop hlt
      have hzb := hb z hz
      obtain ⟨n, rfl⟩ : ∃ n : Nat, z = n := ⟨z.toNat, by omega⟩
      have gg' : (l.map fun z => [AV.v (.int .u8 z)])[j]? = some [.v (.int .u8 n)] := by rw [List.getElem?_map, hg]; rfl
      have hrt := hxL_take hg
      have hxx : hx2 n = [((hexB (n / 16)).toNat : Int), ((hexB (n % 16)).toNat : Int)] := by
        unfold hx2; rw [show ((n : Int) / 16).toNat = n / 16 by omega, show ((n : Int) % 16).toNat = n % 16 by omega]
      have q1 : Int.tdiv (n : Int) 16 = ((n / 16 : Nat) : Int) := by rw [Int.tdiv_eq_ediv_of_nonneg (by omega)]; omega
      have q2 : Int.tmod (n : Int) 16 = ((n % 16 : Nat) : Int) := by rw [Int.tmod_eq_emod_of_nonneg (by omega)]; omega
      have w1 : IntKind.wrap .u8 ((n / 16 : Nat) : Int) = ((n / 16 : Nat) : Int) := wrap_u8 (by omega) (by omega)
      have g1 := hexA_at (show n / 16 < 16 by omega)
      have g2 := hexA_at (show n % 16 < 16 by omega)
      have g1' := hexA_at' (show n / 16 < 16 by omega)
      have g2' := hexA_at' (show n % 16 < 16 by omega)
      have hjI : ((j : Nat) : Int) < (l.length : Int) := by omega
      have w4 : IntKind.wrap .i64 ((j : Nat) + 1 : Int) = ((j + 1 : Nat) : Int) := wrap_succ (by omega)
      rw [hxx] at hrt
      clear hxx
      generalize (n / 16 : Nat) = qd at *
      generalize (n % 16 : Nat) = rd at *
      repeat' ((fail_if_success (first | refine wAt 7 ?_)); first | ((first | refine wSeqr ?_ | refine wIf ?_ | refine wReg ?_ | (refine wRet ?_; (try simp only [thenQ, blockQ]); refine ends_by ?_)); intro xx hx; have hc := trivial; (repeat' (simp only [hc, Nat.reduceBEq, go_sem, Nat.reduceAdd, Nat.reduceMul, Nat.reduceSub, Nat.reduceEqDiff, Nat.reduceLT, Nat.reduceLeDiff, Int.reduceEq, Int.reduceLT, Int.reduceLE, reduceIte, aresults, aresult, hp0, h2, h3, h11, h12, h13, hjI, gg', List.length_map, bytesL, cell] at hx; (try (rw [guardL_if] at hx; split at hx <;> rename_i hc)))); all_goals (subst hx; first | (refine ⟨_, rfl, fun ht => ?_, fun ht => ?_⟩ <;> (try simp only [bbs] at ht)) | (refine ⟨_, rfl, ?_⟩; (try simp only [tupOf])))) | refine wSkip ?_ | (refine wExit ?_; simp only [thenQ, blockQ, reduceIte, Nat.reduceEqDiff]) | refine wSeq ?_ | refine wBlock ?_)
      all_goals try (exfalso; (try simp only [bbs] at *); first | omega | exact absurd trivial (by assumption))
      (first | refine wSeqr ?_ | refine wReg ?_); intro xx hx; have hc := trivial; (repeat' (simp only [hc, Nat.reduceBEq, go_sem, Nat.reduceAdd, Nat.reduceMul, Nat.reduceSub, Nat.reduceEqDiff, Nat.reduceLT, Nat.reduceLeDiff, Int.reduceEq, Int.reduceLT, Int.reduceLE, reduceIte, aresults, aresult, hp0, h2, h3, h11, h12, h13, bytesL, cell, gg', q1, q2, w1, g1, g2, g1', g2'] at hx; (try (rw [guardL_if] at hx; split at hx <;> rename_i hc)))); generalize hq : aappend Tryz.prog _ _ _ _ = q at hx
      obtain ⟨x', K, rfl, hacc, hg2, hk2, ho2⟩ := app_rows hq el22 zero5 by5 int22 (sz := 1) rfl (by omega) hr (m := 2) rfl (show afirst _ 1 2 (.lst true [[.v (.int .u8 ((hexB qd).toNat : Int))], [.v (.int .u8 ((hexB rd).toNat : Int))]]) = some [.v (.int .u8 ((hexB qd).toNat : Int)), .v (.int .u8 ((hexB rd).toNat : Int))] from rfl) rfl (by omega) (by omega)
      clear hq
      have hc := trivial; (repeat' (simp only [hc, Nat.reduceBEq, go_sem, Nat.reduceAdd, Nat.reduceMul, Nat.reduceSub, Nat.reduceEqDiff, Nat.reduceLT, Nat.reduceLeDiff, Int.reduceEq, Int.reduceLT, Int.reduceLE, reduceIte, aresults, aresult, hp0] at hx; (try (rw [guardL_if] at hx; split at hx <;> rename_i hc)))); all_goals (subst hx; refine ⟨_, rfl, ?_⟩)
      repeat' (first | ((first | refine wSeqr ?_ | refine wIf ?_ | refine wReg ?_ | (refine wRet ?_; (try simp only [thenQ, blockQ]); refine ends_by ?_)); intro xx hx; have hc := trivial; (repeat' (simp only [hc, Nat.reduceBEq, go_sem, Nat.reduceAdd, Nat.reduceMul, Nat.reduceSub, Nat.reduceEqDiff, Nat.reduceLT, Nat.reduceLeDiff, Int.reduceEq, Int.reduceLT, Int.reduceLE, reduceIte, aresults, aresult, hp0, h13, w4] at hx; (try (rw [guardL_if] at hx; split at hx <;> rename_i hc)))); all_goals (subst hx; first | (refine ⟨_, rfl, fun ht => ?_, fun ht => ?_⟩ <;> (try simp only [bbs] at ht)) | (refine ⟨_, rfl, ?_⟩; (try simp only [tupOf])))) | refine wSkip ?_ | (refine wExit ?_; simp only [thenQ, blockQ, reduceIte, Nat.reduceEqDiff]) | refine wSeq ?_ | refine wBlock ?_)
      all_goals try (exfalso; (try simp only [bbs] at *); first | omega | exact absurd trivial (by assumption))
      refine ⟨_, Nat.sub_lt (by omega) Nat.one_pos, j + 1, x', by omega, by simp only [upd_eq, Nat.reduceEqDiff, if_false, if_true, h2, h3, h11, h12, h13], by simp only [upd_eq, Nat.reduceEqDiff, if_false, if_true, h2, h3, h11, h12, h13], by simp only [upd_eq, Nat.reduceEqDiff, if_false, if_true, h2, h3, h11, h12, h13], by simp only [upd_eq, Nat.reduceEqDiff, if_false, if_true, h2, h3, h11, h12, h13], by simp only [upd_eq, Nat.reduceEqDiff, if_false, if_true, h2, h3, h11, h12, h13], ?_⟩
      have e2 : 2 * (j + 1) = 2 * j + 2 := by omega
      refine ⟨?_, ⟨(hk2 0 hgl hof).trans hbl, Nat.lt_of_lt_of_le hgl hg2⟩, ho2 0 hgl hof⟩
      rw [hrt, List.map_append, e2]; exact hacc
    · have hjI : ¬ ((j : Nat) : Int) < (l.length : Int) := by omega
      have hj' : j = l.length := by omega
      rw [hj', List.take_length] at hr
      have hcv := conv_acc hr (by rw [hxL_len])
      repeat' (first | ((first | refine wSeqr ?_ | refine wIf ?_ | refine wReg ?_ | (refine wRet ?_; (try simp only [thenQ, blockQ]); refine ends_by ?_)); intro xx hx; have hc := trivial; (repeat' (simp only [hc, Nat.reduceBEq, go_sem, Nat.reduceAdd, Nat.reduceMul, Nat.reduceSub, Nat.reduceEqDiff, Nat.reduceLT, Nat.reduceLeDiff, Int.reduceEq, Int.reduceLT, Int.reduceLE, reduceIte, aresults, aresult, hp0, h2, h3, h11, h12, h13, hjI, hcv, hbl, List.length_map, bytesL] at hx; (try (rw [guardL_if] at hx; split at hx <;> rename_i hc)))); all_goals (subst hx; first | (refine ⟨_, rfl, fun ht => ?_, fun ht => ?_⟩ <;> (try simp only [bbs] at ht)) | (refine ⟨_, rfl, ?_⟩; (try simp only [tupOf])))) | refine wSkip ?_ | (refine wExit ?_; simp only [thenQ, blockQ, reduceIte, Nat.reduceEqDiff]) | refine wSeq ?_ | refine wBlock ?_)
      all_goals try (exfalso; (try simp only [bbs] at *); first | omega | exact absurd trivial (by assumption))
      all_goals exact ⟨rfl, rfl⟩
  · exact ⟨0, .lst true [], by omega, rfl, rfl, rfl, rfl, rfl, RAcc.lst, ⟨rfl, by show 0 < 1; omega⟩, off_lst⟩
theorem c_iHexText (l : List Int) (hb : Eng.Bytes l) (hl : l.length ≤ 1048576) : ∀ H, call Tryz.prog cfg0 0 12 [bytesL l] H = some (.agg [.v (.int .i64 (hxC l)), .v (.string (hxT l))], H) :=
  call_fz Tryz.func12 rfl ok_iHexText rfl (by simp only [fz_cons, fz_nil, go_sem, and_self]) (p_iHexText l hb hl)

end
end Go.Proofs.YtakbbccdnkigpaaGreatDoor
namespace Go.Proofs.YtakbbccdnkigpaaGreatDoor
open Go Go.RowKit Go.Proofs.YtakbbccdnkigpaaGreatDoor.Eng
set_option linter.unusedSimpArgs false
set_option linter.unusedVariables false
set_option maxRecDepth 100000
set_option maxHeartbeats 2000000
noncomputable section
theorem textOf_size (u : Nat) (hu : u < 18446744073709551616) : (textOf u).size ≤ 20 := by
  show (Lib.itoa (u : Int)).toArray.size ≤ 20
  rw [itoa_nat, List.size_toArray, Lib.decDigits_length]
  by_cases h0 : u = 0
  · subst h0; rw [Lib.nDigits_small (by omega)]; omega
  · have h1 := (Lib.numDigits_eq u (by omega) hu).1
    have h2 := (Lib.numDigits_eq u (by omega) hu).2
    split at h1 <;> omega
theorem conv_one (z : Int) (H : Hp) : aconv Tryz.prog H 22 9 (.lst true [[.v (.int .u8 z)]]) = some (.v (.string ⟨#[UInt8.ofNat z.toNat]⟩)) := by
  simp [aconv, u22, u9, u5, bytesIn]
theorem conv_ib (n : Int) (H : Hp) : aconv Tryz.prog H 2 5 (.v (.int .i64 n)) = some (.v (.int .u8 (IntKind.wrap .u8 n))) := by simp [aconv, u2, u5]
theorem text_one {u : Nat} (h : u < 10) : (⟨#[UInt8.ofNat (48 + (u : Int)).toNat]⟩ : ByteArray) = textOf u := by
  unfold textOf
  rw [itoa_nat, Lib.decDigits, dif_pos h]
  rw [show (48 + (u : Int)).toNat = 48 + u by omega]
theorem text_app {u : Nat} (h : ¬ u < 10) : textOf ((u / 10 : Nat) : Int) ++ (⟨#[UInt8.ofNat (48 + ((u % 10 : Nat) : Int)).toNat]⟩ : ByteArray) = textOf u := by
  have e : ∀ a b : ByteArray, a.data.toList = b.data.toList → a = b := by
    intro a b h; cases a; cases b; simp at h; rw [h]
  apply e
  rw [ByteArray.data_append, Array.toList_append]
  have e1 : ∀ n : Int, (textOf n).data.toList = Lib.itoa n := fun n => by simp [textOf]
  rw [e1, e1, itoa_nat, itoa_nat, Lib.decDigits.eq_def u, dif_neg h]
  rw [show (48 + ((u % 10 : Nat) : Int)).toNat = 48 + u % 10 by omega]
theorem ok_l1Digits : fnOk Tryz.prog cfg0 89 Tryz.f89 = true := by kernel_rfl
theorem p_l1Digits : ∀ (k u : Nat), u ≤ k → u < 9223372036854775807 → pure Tryz.prog cfg0 89 Tryz.f89 [.v (.int .i64 (u : Int))] = some (.v (.string (textOf u)), true) := by
  intro k
  induction k with
  | zero =>
    intro u hu hb
    obtain rfl : u = 0 := by omega
    refine pure_wp (rs := [.tmp 2]) rfl rfl ?_
    have hp0 : ∀ b, cfg0.pol 89 b = 0 := fun b => rfl
    have w1 : IntKind.wrap .i64 (48 + ((0 : Nat) : Int)) = 48 + ((0 : Nat) : Int) := wrap_i64 (by omega) (by omega)
    have w2 : IntKind.wrap .u8 (48 + ((0 : Nat) : Int)) = 48 + ((0 : Nat) : Int) := wrap_u8 (by omega) (by omega)
    have h0 : ((0 : Nat) : Int) < 10 := by omega
    have e := text_one (u := 0) (by omega)
    generalize ((0 : Nat) : Int) = z at *
    repeat' (first | ((first | refine wSeqr ?_ | refine wIf ?_ | refine wReg ?_ | (refine wRet ?_; (try simp only [thenQ, blockQ]); refine ends_by ?_)); intro xx hx; have hc := trivial; (repeat' (simp only [hc, Nat.reduceBEq, go_sem, Nat.reduceAdd, Nat.reduceMul, Nat.reduceSub, Nat.reduceEqDiff, Nat.reduceLT, Nat.reduceLeDiff, Int.reduceEq, Int.reduceLT, Int.reduceLE, reduceIte, aresults, aresult, hp0, w1, w2, conv_one, conv_ib, h0] at hx; (try (rw [guardL_if] at hx; split at hx <;> rename_i hc)))); all_goals (subst hx; first | (refine ⟨_, rfl, fun ht => ?_, fun ht => ?_⟩ <;> (try simp only [bbs] at ht)) | (refine ⟨_, rfl, ?_⟩; (try simp only [tupOf])))) | refine wSkip ?_ | (refine wExit ?_; simp only [thenQ, blockQ, reduceIte, Nat.reduceEqDiff]) | refine wSeq ?_ | refine wBlock ?_)
    all_goals (rw [e]; exact ⟨rfl, rfl⟩)
  | succ k ih =>
    intro u hu hb
    have hlt : (u : Int) < 10 ↔ u < 10 := by omega
    by_cases h : u < 10
    · have h' : (u : Int) < 10 := by omega
      refine pure_wp (rs := [.tmp 2]) rfl rfl ?_
      have hp0 : ∀ b, cfg0.pol 89 b = 0 := fun b => rfl
      have w1 : IntKind.wrap .i64 (48 + (u : Int)) = 48 + (u : Int) := wrap_i64 (by omega) (by omega)
      have w2 : IntKind.wrap .u8 (48 + (u : Int)) = 48 + (u : Int) := wrap_u8 (by omega) (by omega)
      repeat' (first | ((first | refine wSeqr ?_ | refine wIf ?_ | refine wReg ?_ | (refine wRet ?_; (try simp only [thenQ, blockQ]); refine ends_by ?_)); intro xx hx; have hc := trivial; (repeat' (simp only [hc, Nat.reduceBEq, go_sem, Nat.reduceAdd, Nat.reduceMul, Nat.reduceSub, Nat.reduceEqDiff, Nat.reduceLT, Nat.reduceLeDiff, Int.reduceEq, Int.reduceLT, Int.reduceLE, reduceIte, aresults, aresult, hp0, w1, w2, conv_one, conv_ib, h'] at hx; (try (rw [guardL_if] at hx; split at hx <;> rename_i hc)))); all_goals (subst hx; first | (refine ⟨_, rfl, fun ht => ?_, fun ht => ?_⟩ <;> (try simp only [bbs] at ht)) | (refine ⟨_, rfl, ?_⟩; (try simp only [tupOf])))) | refine wSkip ?_ | (refine wExit ?_; simp only [thenQ, blockQ, reduceIte, Nat.reduceEqDiff]) | refine wSeq ?_ | refine wBlock ?_)
      all_goals (rw [text_one h]; exact ⟨rfl, rfl⟩)
    · have h' : ¬ (u : Int) < 10 := by omega
      have hd := ih (u / 10) (by omega) (by omega)
      have hcl : ∀ H, call Tryz.prog cfg0 0 89 [.v (.int .i64 ((u / 10 : Nat) : Int))] H = some (.v (.string (textOf ((u / 10 : Nat) : Int))), H) :=
        call_fz Tryz.func89 rfl ok_l1Digits rfl (by simp only [fz_cons, fz_nil, go_sem, and_self]) hd
      have e1 : Int.tdiv (u : Int) 10 = ((u / 10 : Nat) : Int) := by rw [Int.tdiv_eq_ediv_of_nonneg (by omega)]; omega
      have e2 : Int.tmod (u : Int) 10 = ((u % 10 : Nat) : Int) := by rw [Int.tmod_eq_emod_of_nonneg (by omega)]; omega
      have w0 : IntKind.wrap .i64 ((u / 10 : Nat) : Int) = ((u / 10 : Nat) : Int) := wrap_i64 (by omega) (by omega)
      have w1 : IntKind.wrap .i64 (48 + ((u % 10 : Nat) : Int)) = 48 + ((u % 10 : Nat) : Int) := wrap_i64 (by omega) (by omega)
      have w2 : IntKind.wrap .u8 (48 + ((u % 10 : Nat) : Int)) = 48 + ((u % 10 : Nat) : Int) := wrap_u8 (by omega) (by omega)
      have hs := textOf_size (u / 10) (by omega)
      have hs2 : (textOf ((u / 10 : Nat) : Int)).size + (⟨#[UInt8.ofNat (48 + ((u % 10 : Nat) : Int)).toNat]⟩ : ByteArray).size ≤ 4611686018427387904 := by
        have : (⟨#[UInt8.ofNat (48 + ((u % 10 : Nat) : Int)).toNat]⟩ : ByteArray).size = 1 := rfl
        omega
      have ea := text_app h
      have hs3 : (textOf ((u / 10 : Nat) : Int)).size + (#[UInt8.ofNat (48 + ((u % 10 : Nat) : Int)).toNat] : Array UInt8).size ≤ 4611686018427387904 := hs2
      refine pure_wp (rs := [.tmp 2]) rfl rfl ?_
      have hp0 : ∀ b, cfg0.pol 89 b = 0 := fun b => rfl
      generalize (u / 10 : Nat) = q at *
      generalize (u % 10 : Nat) = r at *
      repeat' (first | ((first | refine wSeqr ?_ | refine wIf ?_ | refine wReg ?_ | (refine wRet ?_; (try simp only [thenQ, blockQ]); refine ends_by ?_)); intro xx hx; have hc := trivial; (repeat' (simp only [hc, Nat.reduceBEq, go_sem, Nat.reduceAdd, Nat.reduceMul, Nat.reduceSub, Nat.reduceEqDiff, Nat.reduceLT, Nat.reduceLeDiff, Int.reduceEq, Int.reduceLT, Int.reduceLE, reduceIte, aresults, aresult, hp0, h', e1, e2, hcl, w0, w1, w2, conv_one, conv_ib, hs3, ea] at hx; (try (rw [guardL_if] at hx; split at hx <;> rename_i hc)))); all_goals (subst hx; first | (refine ⟨_, rfl, fun ht => ?_, fun ht => ?_⟩ <;> (try simp only [bbs] at ht)) | (refine ⟨_, rfl, ?_⟩; (try simp only [tupOf])))) | refine wSkip ?_ | (refine wExit ?_; simp only [thenQ, blockQ, reduceIte, Nat.reduceEqDiff]) | refine wSeq ?_ | refine wBlock ?_)
      all_goals exact ⟨rfl, rfl⟩
theorem c_l1Digits (u : Nat) (hb : u < 9223372036854775807) : ∀ H, call Tryz.prog cfg0 0 89 [.v (.int .i64 (u : Int))] H = some (.v (.string (textOf u)), H) :=
  call_fz Tryz.func89 rfl ok_l1Digits rfl (by simp only [fz_cons, fz_nil, go_sem, and_self]) (p_l1Digits u u (Nat.le_refl _) hb)
/-- A claim's text, where it has no fault. -/
def letterOf (k : Int) : ByteArray := ⟨#[if k = 0 then 97 else if k = 1 then 115 else 100]⟩
def clText (c : ClaimM) : ByteArray := ((textOf c.Node ++ ⟨#[58]⟩) ++ textOf c.Inc) ++ letterOf c.Status
theorem ok_nat {c : ClaimM} (h : claimOk c = true) : ∃ a b d : Nat, c.Node = a ∧ c.Inc = b ∧ c.Status = d ∧ a ≤ 3 ∧ b ≤ 1000000 ∧ d ≤ 2 := by
  simp only [claimOk, inB, Bool.and_eq_true, decide_eq_true_eq] at h
  exact ⟨c.Node.toNat, c.Inc.toNat, c.Status.toNat, by omega, by omega, by omega, by omega, by omega, by omega⟩
theorem slice_asd (d : Nat) (hd : d ≤ 2) (e : Env) (H : Hp) (x y : Operand) (hx : opd e x = .v (.int .i64 (d : Int))) (hy : opd e y = .v (.int .i64 ((d : Int) + 1))) :
    aslice Tryz.prog H e 9 (.v (.string ⟨#[97, 115, 100]⟩)) (some x) (some y) none = some (.v (.string (letterOf d))) := by
  have h3 : (⟨#[97, 115, 100]⟩ : ByteArray).size = 3 := rfl
  simp only [aslice, u9, Option.isSome_none, Bool.false_eq_true, if_false, bound, hx, hy, natOf]
  rw [if_pos (by omega), if_pos (by omega)]
  simp only [Option.bind_some]
  rw [if_pos ⟨by omega, by rw [h3]; omega⟩]
  match d, hd with
  | 0, _ => rfl
  | 1, _ => rfl
  | 2, _ => rfl
theorem cl_sizes {a b d : Nat} (ha : a ≤ 3) (hb : b ≤ 1000000) : ((textOf a).size + (⟨#[58]⟩ : ByteArray).size ≤ 4611686018427387904 ∧ (textOf a).size + (#[58] : Array UInt8).size ≤ 4611686018427387904 ∧ (textOf a).size + 1 ≤ 4611686018427387904) ∧
    (textOf a).size + (#[58] : Array UInt8).size + (textOf b).size ≤ 4611686018427387904 ∧ (textOf a).size + (#[58] : Array UInt8).size + (textOf b).size + (letterOf d).size ≤ 4611686018427387904 := by
  have h1 := textOf_size a (by omega)
  have h2 := textOf_size b (by omega)
  have h3 : (⟨#[58]⟩ : ByteArray).size = 1 := rfl
  have h4 : (#[58] : Array UInt8).size = 1 := rfl
  have h5 : (letterOf d).size = 1 := rfl
  omega
theorem ok_sl14Claim : fnOk Tryz.prog cfg0 57 Tryz.f57 = true := by kernel_rfl
theorem p_sl14Claim (k : ClaimM) (hk : claimOk k = true) : pure Tryz.prog cfg0 57 Tryz.f57 [.fp [.v (.int .i64 k.Node), .v (.int .i64 k.Inc), .v (.int .i64 k.Status), .v (.int .i64 k.Meta)] 0] = some (.v (.string (clText k)), true) := by
  refine pure_wp (rs := [.tmp 2]) rfl rfl ?_
  have hp0 : ∀ b, cfg0.pol 57 b = 0 := fun b => rfl
  obtain ⟨a, b, d, ea, eb, ed, ha, hb, hd⟩ := ok_nat hk
  have w1 : IntKind.wrap .i64 ((d : Int) + 1) = (d : Int) + 1 := wrap_i64 (by omega) (by omega)
  obtain ⟨⟨z1, z2, z3⟩, z4, z5⟩ := cl_sizes (d := d) ha hb
  have hcl : clText k = ((textOf a ++ (⟨#[58]⟩ : ByteArray)) ++ textOf b) ++ letterOf d := by unfold clText; rw [ea, eb, ed]
  rw [hcl]
  repeat' (first | ((first | refine wSeqr ?_ | refine wIf ?_ | refine wReg ?_ | (refine wRet ?_; (try simp only [thenQ, blockQ]); refine ends_by ?_)); intro xx hx; have hc := trivial; (repeat' (simp only [hc, Nat.reduceBEq, go_sem, Nat.reduceAdd, Nat.reduceMul, Nat.reduceSub, Nat.reduceEqDiff, Nat.reduceLT, Nat.reduceLeDiff, Int.reduceEq, Int.reduceLT, Int.reduceLE, reduceIte, aresults, aresult, hp0] at hx; (try (rw [guardL_if] at hx; split at hx <;> rename_i hc)))); all_goals (subst hx; first | (refine ⟨_, rfl, fun ht => ?_, fun ht => ?_⟩ <;> (try simp only [bbs] at ht)) | (refine ⟨_, rfl, ?_⟩; (try simp only [tupOf])))) | refine wSkip ?_ | (refine wExit ?_; simp only [thenQ, blockQ, reduceIte, Nat.reduceEqDiff]) | refine wSeq ?_ | refine wBlock ?_)
  (first | refine wSeqr ?_ | refine wReg ?_); intro xx hx; have hc := trivial; (repeat' (simp only [hc, Nat.reduceBEq, go_sem, Nat.reduceAdd, Nat.reduceMul, Nat.reduceSub, Nat.reduceEqDiff, Nat.reduceLT, Nat.reduceLeDiff, Int.reduceEq, Int.reduceLT, Int.reduceLE, reduceIte, aresults, aresult, hp0, ea, eb, ed, c_l1Digits a (by omega), c_l1Digits b (by omega), w1, z1, z2, z3, z4, z5] at hx; (try (rw [guardL_if] at hx; split at hx <;> rename_i hc)))); generalize hq : aslice Tryz.prog _ _ _ _ _ _ _ = q at hx
  rw [slice_asd d hd] at hq
  rotate_left
  · simp only [opd_tmp, upd_eq, Nat.reduceEqDiff, if_true, if_false]
  · simp only [opd_tmp, upd_eq, Nat.reduceEqDiff, if_true, if_false]
  subst hq
  have hc := trivial; (repeat' (simp only [hc, Nat.reduceBEq, go_sem, Nat.reduceAdd, Nat.reduceMul, Nat.reduceSub, Nat.reduceEqDiff, Nat.reduceLT, Nat.reduceLeDiff, Int.reduceEq, Int.reduceLT, Int.reduceLE, reduceIte, aresults, aresult, hp0, z5] at hx; (try (rw [guardL_if] at hx; split at hx <;> rename_i hc)))); all_goals (subst hx; refine ⟨_, rfl, ?_⟩)
  repeat' (first | ((first | refine wSeqr ?_ | refine wIf ?_ | refine wReg ?_ | (refine wRet ?_; (try simp only [thenQ, blockQ]); refine ends_by ?_)); intro xx hx; have hc := trivial; (repeat' (simp only [hc, Nat.reduceBEq, go_sem, Nat.reduceAdd, Nat.reduceMul, Nat.reduceSub, Nat.reduceEqDiff, Nat.reduceLT, Nat.reduceLeDiff, Int.reduceEq, Int.reduceLT, Int.reduceLE, reduceIte, aresults, aresult, hp0] at hx; (try (rw [guardL_if] at hx; split at hx <;> rename_i hc)))); all_goals (subst hx; first | (refine ⟨_, rfl, fun ht => ?_, fun ht => ?_⟩ <;> (try simp only [bbs] at ht)) | (refine ⟨_, rfl, ?_⟩; (try simp only [tupOf])))) | refine wSkip ?_ | (refine wExit ?_; simp only [thenQ, blockQ, reduceIte, Nat.reduceEqDiff]) | refine wSeq ?_ | refine wBlock ?_)
  all_goals exact ⟨rfl, rfl⟩
open Classical in
theorem cp_sl14Claim (k : ClaimM) (hk : claimOk k = true) : ∀ H bk, call Tryz.prog cfg0 0 57 [.ptr bk 0] H = if H.h bk = some [.v (.int .i64 k.Node), .v (.int .i64 k.Inc), .v (.int .i64 k.Status), .v (.int .i64 k.Meta)] then some (.v (.string (clText k)), H) else call' Tryz.prog cfg0 0 57 [.ptr bk 0] H :=
  fun H bk => by
    exact call_if Tryz.func57 rfl ok_sl14Claim rfl (fun hC => mapM_c (deep_ptr hC (fzE_Claim 10 k)) (mapM_n)) (p_sl14Claim k hk)

def ctC (k : ClaimM) : Int := claimFault k
def ctT (k : ClaimM) : ByteArray := if claimOk k = true then clText k else ⟨#[]⟩
theorem ok_sClaimText : fnOk Tryz.prog cfg0 25 Tryz.f25 = true := by kernel_rfl
theorem p_sClaimText (k : ClaimM) : pure Tryz.prog cfg0 25 Tryz.f25 [.agg [.v (.int .i64 k.Node), .v (.int .i64 k.Inc), .v (.int .i64 k.Status), .v (.int .i64 k.Meta)]] = some (.agg [.v (.int .i64 (ctC k)), .v (.string (ctT k))], true) := by
  refine pure_wp (rs := [.cell 2 36]) rfl rfl ?_
  have hp0 : ∀ b, cfg0.pol 25 b = 0 := fun b => rfl
  by_cases hk : claimOk k = true
  · have e0 : claimFault k = 0 := by unfold claimFault; rw [if_pos hk]
    have e1 : ctT k = clText k := by unfold ctT; rw [if_pos hk]
    have e2 : ctC k = 0 := e0
    repeat' (first | ((first | refine wSeqr ?_ | refine wIf ?_ | refine wReg ?_ | (refine wRet ?_; (try simp only [thenQ, blockQ]); refine ends_by ?_)); intro xx hx; have hc := trivial; (repeat' (simp only [hc, Nat.reduceBEq, go_sem, Nat.reduceAdd, Nat.reduceMul, Nat.reduceSub, Nat.reduceEqDiff, Nat.reduceLT, Nat.reduceLeDiff, Int.reduceEq, Int.reduceLT, Int.reduceLE, reduceIte, aresults, aresult, hp0, c_sClaimFault, e0, cp_sl14Claim k hk] at hx; (try (rw [guardL_if] at hx; split at hx <;> rename_i hc)))); all_goals (subst hx; first | (refine ⟨_, rfl, fun ht => ?_, fun ht => ?_⟩ <;> (try simp only [bbs] at ht)) | (refine ⟨_, rfl, ?_⟩; (try simp only [tupOf])))) | refine wSkip ?_ | (refine wExit ?_; simp only [thenQ, blockQ, reduceIte, Nat.reduceEqDiff]) | refine wSeq ?_ | refine wBlock ?_)
    all_goals first
      | (exfalso; exact absurd trivial (by assumption))
      | (refine ⟨?_, rfl⟩; rw [e1, e2]; rfl)
  · have e0 : claimFault k = 3 := by unfold claimFault; rw [if_neg hk]
    have e1 : ctT k = ⟨#[]⟩ := by unfold ctT; rw [if_neg hk]
    have e2 : ctC k = 3 := e0
    repeat' (first | ((first | refine wSeqr ?_ | refine wIf ?_ | refine wReg ?_ | (refine wRet ?_; (try simp only [thenQ, blockQ]); refine ends_by ?_)); intro xx hx; have hc := trivial; (repeat' (simp only [hc, Nat.reduceBEq, go_sem, Nat.reduceAdd, Nat.reduceMul, Nat.reduceSub, Nat.reduceEqDiff, Nat.reduceLT, Nat.reduceLeDiff, Int.reduceEq, Int.reduceLT, Int.reduceLE, reduceIte, aresults, aresult, hp0, c_sClaimFault, e0] at hx; (try (rw [guardL_if] at hx; split at hx <;> rename_i hc)))); all_goals (subst hx; first | (refine ⟨_, rfl, fun ht => ?_, fun ht => ?_⟩ <;> (try simp only [bbs] at ht)) | (refine ⟨_, rfl, ?_⟩; (try simp only [tupOf])))) | refine wSkip ?_ | (refine wExit ?_; simp only [thenQ, blockQ, reduceIte, Nat.reduceEqDiff]) | refine wSeq ?_ | refine wBlock ?_)
    all_goals first
      | (exfalso; exact absurd trivial (by assumption))
      | (refine ⟨?_, rfl⟩; rw [e1, e2]; rfl)
theorem c_sClaimText (k : ClaimM) : ∀ H, call Tryz.prog cfg0 0 25 [.agg [.v (.int .i64 k.Node), .v (.int .i64 k.Inc), .v (.int .i64 k.Status), .v (.int .i64 k.Meta)]] H = some (.agg [.v (.int .i64 (ctC k)), .v (.string (ctT k))], H) :=
  call_fz Tryz.func25 rfl ok_sClaimText rfl (by simp only [fz_cons, fz_nil, go_sem, and_self]) (p_sClaimText k)

theorem i64_nat {n : Nat} (h : n ≤ 1000000) : i64B (n : Int) := ⟨by omega, by omega⟩
theorem ok_iClaimText : fnOk Tryz.prog cfg0 18 Tryz.f18 = true := by kernel_rfl
theorem p_iClaimText (k : ClaimM) : pure Tryz.prog cfg0 18 Tryz.f18 [.agg [.v (.int .i64 k.Node), .v (.int .i64 k.Inc), .v (.int .i64 k.Status), .v (.int .i64 k.Meta)]] = some (.agg [.v (.int .i64 (ctC k)), .v (.string (ctT k))], true) := by
  refine pure_wp (rs := [.cell 2 36]) rfl rfl ?_
  have hp0 : ∀ b, cfg0.pol 18 b = 0 := fun b => rfl
  by_cases hk : claimOk k = true
  · have e0 : claimFault k = 0 := by unfold claimFault; rw [if_pos hk]
    have e1 : ctT k = clText k := by unfold ctT; rw [if_pos hk]
    have e2 : ctC k = 0 := e0
    obtain ⟨a, b, d, ea, eb, ed, ha, hb, hd⟩ := ok_nat hk
    have w1 : IntKind.wrap .i64 ((d : Int) + 1) = (d : Int) + 1 := wrap_i64 (by omega) (by omega)
    obtain ⟨⟨z1, z2, z3⟩, z4, z5⟩ := cl_sizes (d := d) ha hb
    have hcl : clText k = ((textOf a ++ (⟨#[58]⟩ : ByteArray)) ++ textOf b) ++ letterOf d := by unfold clText; rw [ea, eb, ed]
    rw [e1, e2, hcl]
    repeat' (first | ((first | refine wSeqr ?_ | refine wIf ?_ | refine wReg ?_ | (refine wRet ?_; (try simp only [thenQ, blockQ]); refine ends_by ?_)); intro xx hx; have hc := trivial; (repeat' (simp only [hc, Nat.reduceBEq, go_sem, Nat.reduceAdd, Nat.reduceMul, Nat.reduceSub, Nat.reduceEqDiff, Nat.reduceLT, Nat.reduceLeDiff, Int.reduceEq, Int.reduceLT, Int.reduceLE, reduceIte, aresults, aresult, hp0, c_iClaimFault, e0] at hx; (try (rw [guardL_if] at hx; split at hx <;> rename_i hc)))); all_goals (subst hx; first | (refine ⟨_, rfl, fun ht => ?_, fun ht => ?_⟩ <;> (try simp only [bbs] at ht)) | (refine ⟨_, rfl, ?_⟩; (try simp only [tupOf])))) | refine wSkip ?_ | (refine wExit ?_; simp only [thenQ, blockQ, reduceIte, Nat.reduceEqDiff]) | refine wSeq ?_ | refine wBlock ?_)
    · exfalso; exact absurd trivial (by assumption)
    (first | refine wSeqr ?_ | refine wReg ?_); intro xx hx; have hc := trivial; (repeat' (simp only [hc, Nat.reduceBEq, go_sem, Nat.reduceAdd, Nat.reduceMul, Nat.reduceSub, Nat.reduceEqDiff, Nat.reduceLT, Nat.reduceLeDiff, Int.reduceEq, Int.reduceLT, Int.reduceLE, reduceIte, aresults, aresult, hp0, ea, eb, ed, c_idigits a (i64_nat (by omega)), c_idigits b (i64_nat hb), w1, z1, z2, z3, z4, z5] at hx; (try (rw [guardL_if] at hx; split at hx <;> rename_i hc)))); generalize hq : aslice Tryz.prog _ _ _ _ _ _ _ = q at hx
    rw [slice_asd d hd] at hq
    rotate_left
    · simp only [opd_tmp, upd_eq, Nat.reduceEqDiff, if_true, if_false]
    · simp only [opd_tmp, upd_eq, Nat.reduceEqDiff, if_true, if_false]
    subst hq
    have hc := trivial; (repeat' (simp only [hc, Nat.reduceBEq, go_sem, Nat.reduceAdd, Nat.reduceMul, Nat.reduceSub, Nat.reduceEqDiff, Nat.reduceLT, Nat.reduceLeDiff, Int.reduceEq, Int.reduceLT, Int.reduceLE, reduceIte, aresults, aresult, hp0, z5] at hx; (try (rw [guardL_if] at hx; split at hx <;> rename_i hc)))); all_goals (subst hx; refine ⟨_, rfl, ?_⟩)
    repeat' (first | ((first | refine wSeqr ?_ | refine wIf ?_ | refine wReg ?_ | (refine wRet ?_; (try simp only [thenQ, blockQ]); refine ends_by ?_)); intro xx hx; have hc := trivial; (repeat' (simp only [hc, Nat.reduceBEq, go_sem, Nat.reduceAdd, Nat.reduceMul, Nat.reduceSub, Nat.reduceEqDiff, Nat.reduceLT, Nat.reduceLeDiff, Int.reduceEq, Int.reduceLT, Int.reduceLE, reduceIte, aresults, aresult, hp0] at hx; (try (rw [guardL_if] at hx; split at hx <;> rename_i hc)))); all_goals (subst hx; first | (refine ⟨_, rfl, fun ht => ?_, fun ht => ?_⟩ <;> (try simp only [bbs] at ht)) | (refine ⟨_, rfl, ?_⟩; (try simp only [tupOf])))) | refine wSkip ?_ | (refine wExit ?_; simp only [thenQ, blockQ, reduceIte, Nat.reduceEqDiff]) | refine wSeq ?_ | refine wBlock ?_)
    all_goals exact ⟨rfl, rfl⟩
  · have e0 : claimFault k = 3 := by unfold claimFault; rw [if_neg hk]
    have e1 : ctT k = ⟨#[]⟩ := by unfold ctT; rw [if_neg hk]
    have e2 : ctC k = 3 := e0
    repeat' (first | ((first | refine wSeqr ?_ | refine wIf ?_ | refine wReg ?_ | (refine wRet ?_; (try simp only [thenQ, blockQ]); refine ends_by ?_)); intro xx hx; have hc := trivial; (repeat' (simp only [hc, Nat.reduceBEq, go_sem, Nat.reduceAdd, Nat.reduceMul, Nat.reduceSub, Nat.reduceEqDiff, Nat.reduceLT, Nat.reduceLeDiff, Int.reduceEq, Int.reduceLT, Int.reduceLE, reduceIte, aresults, aresult, hp0, c_iClaimFault, e0] at hx; (try (rw [guardL_if] at hx; split at hx <;> rename_i hc)))); all_goals (subst hx; first | (refine ⟨_, rfl, fun ht => ?_, fun ht => ?_⟩ <;> (try simp only [bbs] at ht)) | (refine ⟨_, rfl, ?_⟩; (try simp only [tupOf])))) | refine wSkip ?_ | (refine wExit ?_; simp only [thenQ, blockQ, reduceIte, Nat.reduceEqDiff]) | refine wSeq ?_ | refine wBlock ?_)
    all_goals first
      | (exfalso; exact absurd trivial (by assumption))
      | (refine ⟨?_, rfl⟩; rw [e1, e2]; rfl)
theorem c_iClaimText (k : ClaimM) : ∀ H, call Tryz.prog cfg0 0 18 [.agg [.v (.int .i64 k.Node), .v (.int .i64 k.Inc), .v (.int .i64 k.Status), .v (.int .i64 k.Meta)]] H = some (.agg [.v (.int .i64 (ctC k)), .v (.string (ctT k))], H) :=
  call_fz Tryz.func18 rfl ok_iClaimText rfl (by simp only [fz_cons, fz_nil, go_sem, and_self]) (p_iClaimText k)

end
end Go.Proofs.YtakbbccdnkigpaaGreatDoor
