/- Contracts: events of words, the reference's side. Contracts: events of words, the reference's side, whole. Contracts: the forms of events' words. -/
import Derived.Test.YtakbbccdnkigpaaGreatDoorKC
namespace Go.Proofs.YtakbbccdnkigpaaGreatDoor
open Go Go.RowKit Go.Proofs.YtakbbccdnkigpaaGreatDoor.Eng
set_option linter.unusedSimpArgs false
set_option linter.unusedVariables false
set_option maxRecDepth 100000
set_option maxHeartbeats 2000000
noncomputable section
def num (z : ByteArray) : Int := numOf 7 z.data.toList
def key3 (op : Int) (a b : ByteArray) : Option EventM := if num a < 0 ∨ num b < 0 then none else some ⟨7, num a, 0, 0, [], op, ⟨num b, []⟩⟩
def evK : List ByteArray → Option EventM
  | [w, a, b] => if w.data.toList = [117, 115, 101] then key3 2 a b else if w.data.toList = [114, 101, 109, 111, 118, 101] then key3 3 a b else none
  | [w, a, b, c] => if w.data.toList = [105, 110, 115, 116, 97, 108, 108] then (if num a < 0 ∨ num b < 0 then none else (hexRd c.data.toList).map fun d => ⟨7, num a, 0, 0, [], 1, ⟨num b, d⟩⟩) else none
  | _ => none
def evS : List ByteArray → Option EventM
  | [w, a] => if num a < 0 then none else if w.data.toList = [112, 117, 115, 104] then some ⟨6, num a, 0, 0, [], 0, ⟨0, []⟩⟩ else if w.data.toList = [116, 105, 99, 107] then some ⟨1, num a, 0, 0, [], 0, ⟨0, []⟩⟩ else if w.data.toList = [115, 116, 111, 112] then some ⟨8, num a, 0, 0, [], 0, ⟨0, []⟩⟩
      else if w.data.toList = [99, 111, 109, 101] then some ⟨2, 0, num a, 0, [], 0, ⟨0, []⟩⟩ else if w.data.toList = [108, 111, 115, 101] then some ⟨3, 0, num a, 0, [], 0, ⟨0, []⟩⟩ else if w.data.toList = [99, 111, 112, 121] then some ⟨4, 0, num a, 0, [], 0, ⟨0, []⟩⟩ else none
  | [w, a, b] => if num a < 0 then none else if w.data.toList = [112, 117, 115, 104] then (hexRd b.data.toList).map fun d => ⟨6, num a, 0, 0, d, 0, ⟨0, []⟩⟩ else evK [w, a, b]
  | [w, a, b, c] => if num a < 0 then none else if w.data.toList = [116, 117, 114, 110] then (if 0 ≤ num b ∧ num b ≤ 255 ∧ 0 ≤ num c then some ⟨5, 0, num a, num c, [num b], 0, ⟨0, []⟩⟩ else none) else evK [w, a, b, c]
  | _ => none
def EvQ (o : Option EventM) (v : AV) : Prop := ∃ e : EventM, v = .tup [.agg [.v (.int .i64 e.Kind), .v (.int .i64 e.Node), .v (.int .i64 e.At), .v (.int .i64 e.Mask), bytesL e.Data, .v (.int .i64 e.Op), .v (.int .i64 e.Key.Id), bytesL e.Key.Bytes], .v (.bool o.isSome)] ∧ ∀ x, o = some x → e = x
theorem ev_leaf {o : Option EventM} {H : Hp} {k n a m p i : Int} {x y : AV} {d c : List Int} {b : Bool} (hx : deep H 10 x = some (bytesL d)) (hy : deep H 10 y = some (bytesL c)) (ho : o.isSome = b) (he : ∀ z, o = some z → (⟨k, n, a, m, d, p, ⟨i, c⟩⟩ : EventM) = z) :
    ∃ v cl, EvQ o v ∧ Gives v cl (.tup [.agg [.v (.int .i64 k), .v (.int .i64 n), .v (.int .i64 a), .v (.int .i64 m), x, .v (.int .i64 p), .v (.int .i64 i), y], .v (.bool b)]) H := by
  subst ho
  refine ⟨_, _, ⟨_, rfl, he⟩, ?_, rfl⟩
  have h1 : [AV.v (.int .i64 k), .v (.int .i64 n), .v (.int .i64 a), .v (.int .i64 m), x, .v (.int .i64 p), .v (.int .i64 i), y].mapM (deep H 10) = some [AV.v (.int .i64 k), .v (.int .i64 n), .v (.int .i64 a), .v (.int .i64 m), bytesL d, .v (.int .i64 p), .v (.int .i64 i), bytesL c] :=
    mapM_c rfl (mapM_c rfl (mapM_c rfl (mapM_c rfl (mapM_c hx (mapM_c rfl (mapM_c rfl (mapM_c hy mapM_n)))))))
  have h2 : deep H 11 (.agg [AV.v (.int .i64 k), .v (.int .i64 n), .v (.int .i64 a), .v (.int .i64 m), x, .v (.int .i64 p), .v (.int .i64 i), y]) = some (.agg [AV.v (.int .i64 k), .v (.int .i64 n), .v (.int .i64 a), .v (.int .i64 m), bytesL d, .v (.int .i64 p), .v (.int .i64 i), bytesL c]) := by
    show (List.mapM (deep H 10) _).map AV.agg = _
    rw [h1]; rfl
  show ([AV.agg _, AV.v (.bool _)].mapM (deep H 11)).map AV.tup = _
  rw [mapM_c h2 (mapM_c rfl mapM_n)]; rfl
theorem dB {H : Hp} (d : List Int) : deep H 10 (bytesL d) = some (bytesL d) := (bytesL_fz 8 d).1 H
theorem dN {H : Hp} : deep H 10 (.v (.slice none 0 0)) = some (bytesL []) := rfl
theorem dE {H : Hp} {u : Bool} : deep H 10 (.lst u []) = some (bytesL []) := rfl
theorem dO {H : Hp} {u : Bool} (n : Int) : deep H 10 (.lst u [[.v (.int .u8 n)]]) = some (bytesL [n]) := rfl
theorem i2 : (((2 : Nat) : Int)) = 2 := rfl
theorem i3 : (((3 : Nat) : Int)) = 3 := rfl
theorem i4 : (((4 : Nat) : Int)) = 4 := rfl
theorem i0 : (((0 : Nat) : Int)) = 0 := rfl
theorem i1 : (((1 : Nat) : Int)) = 1 := rfl
/-- Facts that many walks use, in one. -/
theorem b2 : (∀ {α β : Type} {f : α → β} {a : α} {l : List α}, List.map f (a :: l) = f a :: List.map f l) ∧ (∀ {α β : Type} {f : α → β}, List.map f [] = []) ∧ (∀ {α : Type} {a : α} {l : List α}, (a :: l)[0]? = some a) ∧ (∀ {α : Type} {a : α} {i : Nat} {l : List α}, (a :: l)[i + 1]? = l[i]?) ∧ (∀ {α : Type} {a : α} {l : List α}, (a :: l).length = l.length + 1) ∧ (∀ {α : Type}, ([] : List α).length = 0) ∧ (((0 : Nat) : Int)) = 0 ∧ (((1 : Nat) : Int)) = 1 ∧ (((2 : Nat) : Int)) = 2 ∧ (((3 : Nat) : Int)) = 3 ∧ (((4 : Nat) : Int)) = 4 ∧ (¬ True) = False ∧ (¬ False) = True ∧ (∀ (h : Decidable True), @decide True h = true) ∧ (∀ (h : Decidable False), @decide False h = false) ∧ (!true) = false ∧ (!false) = true :=
  ⟨List.map_cons, List.map_nil, List.getElem?_cons_zero, List.getElem?_cons_succ, List.length_cons, List.length_nil, rfl, rfl, rfl, rfl, rfl, not_true_eq_false, not_false_eq_true, fun h => decide_true h, fun h => decide_false h, rfl, rfl⟩
theorem ok_l14Key : fnOk Tryz.prog cfg0 66 Tryz.f66 = true := by kernel_rfl
theorem p_l14Key2 (w a : ByteArray) : ∃ v cl, EvQ (evK ([w, a])) v ∧ pure Tryz.prog cfg0 66 Tryz.f66 [textsL ([w, a])] = some (v, cl) := by
  refine pure_ex (rs := [.cell 2 26, .tmp 3]) rfl rfl ?_
  have hp0 : ∀ b, cfg0.pol 66 b = 0 := fun b => rfl
  have T : textsL ([w, a]) = .lst false (([w, a]).map fun s => [AV.v (.string s)]) := rfl
  by_cases n_install : w.data.toList = [105, 110, 115, 116, 97, 108, 108]
  · have hw := n_install
    have e_install : (w.data.toList = [105, 110, 115, 116, 97, 108, 108]) = True := eq_true hw
    have e_use : (w.data.toList = [117, 115, 101]) = False := eq_false (by rw [hw]; decide)
    have e_remove : (w.data.toList = [114, 101, 109, 111, 118, 101]) = False := eq_false (by rw [hw]; decide)
    rw [show evK ([w, a]) = none by simp only [evK, e_install, e_use, e_remove, if_false]]
    repeat' (first | ((first | refine wSeqr ?_ | refine wIf ?_ | refine wReg ?_ | (refine wRet ?_; (try simp only [thenQ, blockQ]); refine ends_by ?_)); intro xx hx; have hc := trivial; (repeat' (simp only [hc, Nat.reduceBEq, go_sem, Nat.reduceAdd, Nat.reduceMul, Nat.reduceSub, Nat.reduceEqDiff, Nat.reduceLT, Nat.reduceLeDiff, Int.reduceEq, Int.reduceLT, Int.reduceLE, reduceIte, aresults, aresult, hp0, T, textsL, b2, str_eq, e_install, e_use, e_remove] at hx; (try (rw [guardL_if] at hx; split at hx <;> rename_i hc)))); all_goals (subst hx; first | (refine ⟨_, rfl, fun ht => ?_, fun ht => ?_⟩ <;> (try simp only [bbs] at ht)) | (refine ⟨_, rfl, ?_⟩; (try simp only [tupOf])))) | refine wSkip ?_ | (refine wExit ?_; simp only [thenQ, blockQ, reduceIte, Nat.reduceEqDiff]) | refine wSeq ?_ | refine wBlock ?_)
    all_goals try (exfalso; (try simp only [bbs] at *); first | omega | exact absurd trivial (by assumption))
    all_goals first | exact ev_leaf (by first | exact dN | exact dB _ | exact dE | exact dO _) (by first | exact dN | exact dB _ | exact dE | exact dO _) rfl (fun z hz => by first | (cases hz; rfl) | cases hz)
  by_cases n_use : w.data.toList = [117, 115, 101]
  · have hw := n_use
    have e_install : (w.data.toList = [105, 110, 115, 116, 97, 108, 108]) = False := eq_false (by rw [hw]; decide)
    have e_use : (w.data.toList = [117, 115, 101]) = True := eq_true hw
    have e_remove : (w.data.toList = [114, 101, 109, 111, 118, 101]) = False := eq_false (by rw [hw]; decide)
    rw [show evK ([w, a]) = none by simp only [evK, e_install, e_use, e_remove, if_false]]
    repeat' (first | ((first | refine wSeqr ?_ | refine wIf ?_ | refine wReg ?_ | (refine wRet ?_; (try simp only [thenQ, blockQ]); refine ends_by ?_)); intro xx hx; have hc := trivial; (repeat' (simp only [hc, Nat.reduceBEq, go_sem, Nat.reduceAdd, Nat.reduceMul, Nat.reduceSub, Nat.reduceEqDiff, Nat.reduceLT, Nat.reduceLeDiff, Int.reduceEq, Int.reduceLT, Int.reduceLE, reduceIte, aresults, aresult, hp0, T, textsL, b2, str_eq, e_install, e_use, e_remove] at hx; (try (rw [guardL_if] at hx; split at hx <;> rename_i hc)))); all_goals (subst hx; first | (refine ⟨_, rfl, fun ht => ?_, fun ht => ?_⟩ <;> (try simp only [bbs] at ht)) | (refine ⟨_, rfl, ?_⟩; (try simp only [tupOf])))) | refine wSkip ?_ | (refine wExit ?_; simp only [thenQ, blockQ, reduceIte, Nat.reduceEqDiff]) | refine wSeq ?_ | refine wBlock ?_)
    all_goals try (exfalso; (try simp only [bbs] at *); first | omega | exact absurd trivial (by assumption))
    all_goals first | exact ev_leaf (by first | exact dN | exact dB _ | exact dE | exact dO _) (by first | exact dN | exact dB _ | exact dE | exact dO _) rfl (fun z hz => by first | (cases hz; rfl) | cases hz)
  by_cases n_remove : w.data.toList = [114, 101, 109, 111, 118, 101]
  · have hw := n_remove
    have e_install : (w.data.toList = [105, 110, 115, 116, 97, 108, 108]) = False := eq_false (by rw [hw]; decide)
    have e_use : (w.data.toList = [117, 115, 101]) = False := eq_false (by rw [hw]; decide)
    have e_remove : (w.data.toList = [114, 101, 109, 111, 118, 101]) = True := eq_true hw
    rw [show evK ([w, a]) = none by simp only [evK, e_install, e_use, e_remove, if_false]]
    repeat' (first | ((first | refine wSeqr ?_ | refine wIf ?_ | refine wReg ?_ | (refine wRet ?_; (try simp only [thenQ, blockQ]); refine ends_by ?_)); intro xx hx; have hc := trivial; (repeat' (simp only [hc, Nat.reduceBEq, go_sem, Nat.reduceAdd, Nat.reduceMul, Nat.reduceSub, Nat.reduceEqDiff, Nat.reduceLT, Nat.reduceLeDiff, Int.reduceEq, Int.reduceLT, Int.reduceLE, reduceIte, aresults, aresult, hp0, T, textsL, b2, str_eq, e_install, e_use, e_remove] at hx; (try (rw [guardL_if] at hx; split at hx <;> rename_i hc)))); all_goals (subst hx; first | (refine ⟨_, rfl, fun ht => ?_, fun ht => ?_⟩ <;> (try simp only [bbs] at ht)) | (refine ⟨_, rfl, ?_⟩; (try simp only [tupOf])))) | refine wSkip ?_ | (refine wExit ?_; simp only [thenQ, blockQ, reduceIte, Nat.reduceEqDiff]) | refine wSeq ?_ | refine wBlock ?_)
    all_goals try (exfalso; (try simp only [bbs] at *); first | omega | exact absurd trivial (by assumption))
    all_goals first | exact ev_leaf (by first | exact dN | exact dB _ | exact dE | exact dO _) (by first | exact dN | exact dB _ | exact dE | exact dO _) rfl (fun z hz => by first | (cases hz; rfl) | cases hz)
  have e_install : (w.data.toList = [105, 110, 115, 116, 97, 108, 108]) = False := eq_false n_install
  have e_use : (w.data.toList = [117, 115, 101]) = False := eq_false n_use
  have e_remove : (w.data.toList = [114, 101, 109, 111, 118, 101]) = False := eq_false n_remove
  rw [show evK ([w, a]) = none by simp only [evK, e_install, e_use, e_remove, if_false]]
  repeat' (first | ((first | refine wSeqr ?_ | refine wIf ?_ | refine wReg ?_ | (refine wRet ?_; (try simp only [thenQ, blockQ]); refine ends_by ?_)); intro xx hx; have hc := trivial; (repeat' (simp only [hc, Nat.reduceBEq, go_sem, Nat.reduceAdd, Nat.reduceMul, Nat.reduceSub, Nat.reduceEqDiff, Nat.reduceLT, Nat.reduceLeDiff, Int.reduceEq, Int.reduceLT, Int.reduceLE, reduceIte, aresults, aresult, hp0, T, textsL, b2, str_eq, e_install, e_use, e_remove] at hx; (try (rw [guardL_if] at hx; split at hx <;> rename_i hc)))); all_goals (subst hx; first | (refine ⟨_, rfl, fun ht => ?_, fun ht => ?_⟩ <;> (try simp only [bbs] at ht)) | (refine ⟨_, rfl, ?_⟩; (try simp only [tupOf])))) | refine wSkip ?_ | (refine wExit ?_; simp only [thenQ, blockQ, reduceIte, Nat.reduceEqDiff]) | refine wSeq ?_ | refine wBlock ?_)
  all_goals try (exfalso; (try simp only [bbs] at *); first | omega | exact absurd trivial (by assumption))
  all_goals first | exact ev_leaf (by first | exact dN | exact dB _ | exact dE | exact dO _) (by first | exact dN | exact dB _ | exact dE | exact dO _) rfl (fun z hz => by first | (cases hz; rfl) | cases hz)
theorem p_l14Key3 (w a b : ByteArray) : ∃ v cl, EvQ (evK ([w, a, b])) v ∧ pure Tryz.prog cfg0 66 Tryz.f66 [textsL ([w, a, b])] = some (v, cl) := by
  refine pure_ex (rs := [.cell 2 26, .tmp 3]) rfl rfl ?_
  have hp0 : ∀ b, cfg0.pol 66 b = 0 := fun b => rfl
  have T : textsL ([w, a, b]) = .lst false (([w, a, b]).map fun s => [AV.v (.string s)]) := rfl
  have ca := c_sl14Number a
  have cb := c_sl14Number b
  by_cases n_install : w.data.toList = [105, 110, 115, 116, 97, 108, 108]
  · have hw := n_install
    have e_install : (w.data.toList = [105, 110, 115, 116, 97, 108, 108]) = True := eq_true hw
    have e_use : (w.data.toList = [117, 115, 101]) = False := eq_false (by rw [hw]; decide)
    have e_remove : (w.data.toList = [114, 101, 109, 111, 118, 101]) = False := eq_false (by rw [hw]; decide)
    rw [show evK ([w, a, b]) = none by simp only [evK, e_install, e_use, e_remove, if_false]]
    repeat' (first | ((first | refine wSeqr ?_ | refine wIf ?_ | refine wReg ?_ | (refine wRet ?_; (try simp only [thenQ, blockQ]); refine ends_by ?_)); intro xx hx; have hc := trivial; (repeat' (simp only [hc, Nat.reduceBEq, go_sem, Nat.reduceAdd, Nat.reduceMul, Nat.reduceSub, Nat.reduceEqDiff, Nat.reduceLT, Nat.reduceLeDiff, Int.reduceEq, Int.reduceLT, Int.reduceLE, reduceIte, aresults, aresult, hp0, T, textsL, b2, str_eq, e_install, e_use, e_remove] at hx; (try (rw [guardL_if] at hx; split at hx <;> rename_i hc)))); all_goals (subst hx; first | (refine ⟨_, rfl, fun ht => ?_, fun ht => ?_⟩ <;> (try simp only [bbs] at ht)) | (refine ⟨_, rfl, ?_⟩; (try simp only [tupOf])))) | refine wSkip ?_ | (refine wExit ?_; simp only [thenQ, blockQ, reduceIte, Nat.reduceEqDiff]) | refine wSeq ?_ | refine wBlock ?_)
    all_goals try (exfalso; (try simp only [bbs] at *); first | omega | exact absurd trivial (by assumption))
    all_goals first | exact ev_leaf (by first | exact dN | exact dB _ | exact dE | exact dO _) (by first | exact dN | exact dB _ | exact dE | exact dO _) rfl (fun z hz => by first | (cases hz; rfl) | cases hz)
  by_cases n_use : w.data.toList = [117, 115, 101]
  · have hw := n_use
    have e_install : (w.data.toList = [105, 110, 115, 116, 97, 108, 108]) = False := eq_false (by rw [hw]; decide)
    have e_use : (w.data.toList = [117, 115, 101]) = True := eq_true hw
    have e_remove : (w.data.toList = [114, 101, 109, 111, 118, 101]) = False := eq_false (by rw [hw]; decide)
    rw [show evK ([w, a, b]) = key3 2 a b by simp only [evK, e_install, e_use, e_remove, if_false, if_true]]
    unfold key3 num
    generalize numOf 7 a.data.toList = na at *
    generalize numOf 7 b.data.toList = nb at *
    by_cases hn : na < 0 ∨ nb < 0
    · rw [if_pos hn]
      by_cases ha : 0 ≤ na
      · have hb : ¬ 0 ≤ nb := by omega
        repeat' (first | ((first | refine wSeqr ?_ | refine wIf ?_ | refine wReg ?_ | (refine wRet ?_; (try simp only [thenQ, blockQ]); refine ends_by ?_)); intro xx hx; have hc := trivial; (repeat' (simp only [hc, Nat.reduceBEq, go_sem, Nat.reduceAdd, Nat.reduceMul, Nat.reduceSub, Nat.reduceEqDiff, Nat.reduceLT, Nat.reduceLeDiff, Int.reduceEq, Int.reduceLT, Int.reduceLE, reduceIte, aresults, aresult, hp0, T, textsL, b2, str_eq, e_install, e_use, e_remove, ca, cb, ha, hb] at hx; (try (rw [guardL_if] at hx; split at hx <;> rename_i hc)))); all_goals (subst hx; first | (refine ⟨_, rfl, fun ht => ?_, fun ht => ?_⟩ <;> (try simp only [bbs] at ht)) | (refine ⟨_, rfl, ?_⟩; (try simp only [tupOf])))) | refine wSkip ?_ | (refine wExit ?_; simp only [thenQ, blockQ, reduceIte, Nat.reduceEqDiff]) | refine wSeq ?_ | refine wBlock ?_)
        all_goals try (exfalso; (try simp only [bbs] at *); first | omega | exact absurd trivial (by assumption))
        all_goals first | exact ev_leaf (by first | exact dN | exact dB _ | exact dE | exact dO _) (by first | exact dN | exact dB _ | exact dE | exact dO _) rfl (fun z hz => by first | (cases hz; rfl) | cases hz)
      · skip
        repeat' (first | ((first | refine wSeqr ?_ | refine wIf ?_ | refine wReg ?_ | (refine wRet ?_; (try simp only [thenQ, blockQ]); refine ends_by ?_)); intro xx hx; have hc := trivial; (repeat' (simp only [hc, Nat.reduceBEq, go_sem, Nat.reduceAdd, Nat.reduceMul, Nat.reduceSub, Nat.reduceEqDiff, Nat.reduceLT, Nat.reduceLeDiff, Int.reduceEq, Int.reduceLT, Int.reduceLE, reduceIte, aresults, aresult, hp0, T, textsL, b2, str_eq, e_install, e_use, e_remove, ca, cb, ha] at hx; (try (rw [guardL_if] at hx; split at hx <;> rename_i hc)))); all_goals (subst hx; first | (refine ⟨_, rfl, fun ht => ?_, fun ht => ?_⟩ <;> (try simp only [bbs] at ht)) | (refine ⟨_, rfl, ?_⟩; (try simp only [tupOf])))) | refine wSkip ?_ | (refine wExit ?_; simp only [thenQ, blockQ, reduceIte, Nat.reduceEqDiff]) | refine wSeq ?_ | refine wBlock ?_)
        all_goals try (exfalso; (try simp only [bbs] at *); first | omega | exact absurd trivial (by assumption))
        all_goals first | exact ev_leaf (by first | exact dN | exact dB _ | exact dE | exact dO _) (by first | exact dN | exact dB _ | exact dE | exact dO _) rfl (fun z hz => by first | (cases hz; rfl) | cases hz)
    · rw [if_neg hn]
      have ha : 0 ≤ na := by omega
      have hb : 0 ≤ nb := by omega
      repeat' (first | ((first | refine wSeqr ?_ | refine wIf ?_ | refine wReg ?_ | (refine wRet ?_; (try simp only [thenQ, blockQ]); refine ends_by ?_)); intro xx hx; have hc := trivial; (repeat' (simp only [hc, Nat.reduceBEq, go_sem, Nat.reduceAdd, Nat.reduceMul, Nat.reduceSub, Nat.reduceEqDiff, Nat.reduceLT, Nat.reduceLeDiff, Int.reduceEq, Int.reduceLT, Int.reduceLE, reduceIte, aresults, aresult, hp0, T, textsL, b2, str_eq, e_install, e_use, e_remove, ca, cb, ha, hb] at hx; (try (rw [guardL_if] at hx; split at hx <;> rename_i hc)))); all_goals (subst hx; first | (refine ⟨_, rfl, fun ht => ?_, fun ht => ?_⟩ <;> (try simp only [bbs] at ht)) | (refine ⟨_, rfl, ?_⟩; (try simp only [tupOf])))) | refine wSkip ?_ | (refine wExit ?_; simp only [thenQ, blockQ, reduceIte, Nat.reduceEqDiff]) | refine wSeq ?_ | refine wBlock ?_)
      all_goals try (exfalso; (try simp only [bbs] at *); first | omega | exact absurd trivial (by assumption))
      all_goals first | exact ev_leaf (by first | exact dN | exact dB _ | exact dE | exact dO _) (by first | exact dN | exact dB _ | exact dE | exact dO _) rfl (fun z hz => by first | (cases hz; rfl) | cases hz)
  by_cases n_remove : w.data.toList = [114, 101, 109, 111, 118, 101]
  · have hw := n_remove
    have e_install : (w.data.toList = [105, 110, 115, 116, 97, 108, 108]) = False := eq_false (by rw [hw]; decide)
    have e_use : (w.data.toList = [117, 115, 101]) = False := eq_false (by rw [hw]; decide)
    have e_remove : (w.data.toList = [114, 101, 109, 111, 118, 101]) = True := eq_true hw
    rw [show evK ([w, a, b]) = key3 3 a b by simp only [evK, e_install, e_use, e_remove, if_false, if_true]]
    unfold key3 num
    generalize numOf 7 a.data.toList = na at *
    generalize numOf 7 b.data.toList = nb at *
    by_cases hn : na < 0 ∨ nb < 0
    · rw [if_pos hn]
      by_cases ha : 0 ≤ na
      · have hb : ¬ 0 ≤ nb := by omega
        repeat' (first | ((first | refine wSeqr ?_ | refine wIf ?_ | refine wReg ?_ | (refine wRet ?_; (try simp only [thenQ, blockQ]); refine ends_by ?_)); intro xx hx; have hc := trivial; (repeat' (simp only [hc, Nat.reduceBEq, go_sem, Nat.reduceAdd, Nat.reduceMul, Nat.reduceSub, Nat.reduceEqDiff, Nat.reduceLT, Nat.reduceLeDiff, Int.reduceEq, Int.reduceLT, Int.reduceLE, reduceIte, aresults, aresult, hp0, T, textsL, b2, str_eq, e_install, e_use, e_remove, ca, cb, ha, hb] at hx; (try (rw [guardL_if] at hx; split at hx <;> rename_i hc)))); all_goals (subst hx; first | (refine ⟨_, rfl, fun ht => ?_, fun ht => ?_⟩ <;> (try simp only [bbs] at ht)) | (refine ⟨_, rfl, ?_⟩; (try simp only [tupOf])))) | refine wSkip ?_ | (refine wExit ?_; simp only [thenQ, blockQ, reduceIte, Nat.reduceEqDiff]) | refine wSeq ?_ | refine wBlock ?_)
        all_goals try (exfalso; (try simp only [bbs] at *); first | omega | exact absurd trivial (by assumption))
        all_goals first | exact ev_leaf (by first | exact dN | exact dB _ | exact dE | exact dO _) (by first | exact dN | exact dB _ | exact dE | exact dO _) rfl (fun z hz => by first | (cases hz; rfl) | cases hz)
      · skip
        repeat' (first | ((first | refine wSeqr ?_ | refine wIf ?_ | refine wReg ?_ | (refine wRet ?_; (try simp only [thenQ, blockQ]); refine ends_by ?_)); intro xx hx; have hc := trivial; (repeat' (simp only [hc, Nat.reduceBEq, go_sem, Nat.reduceAdd, Nat.reduceMul, Nat.reduceSub, Nat.reduceEqDiff, Nat.reduceLT, Nat.reduceLeDiff, Int.reduceEq, Int.reduceLT, Int.reduceLE, reduceIte, aresults, aresult, hp0, T, textsL, b2, str_eq, e_install, e_use, e_remove, ca, cb, ha] at hx; (try (rw [guardL_if] at hx; split at hx <;> rename_i hc)))); all_goals (subst hx; first | (refine ⟨_, rfl, fun ht => ?_, fun ht => ?_⟩ <;> (try simp only [bbs] at ht)) | (refine ⟨_, rfl, ?_⟩; (try simp only [tupOf])))) | refine wSkip ?_ | (refine wExit ?_; simp only [thenQ, blockQ, reduceIte, Nat.reduceEqDiff]) | refine wSeq ?_ | refine wBlock ?_)
        all_goals try (exfalso; (try simp only [bbs] at *); first | omega | exact absurd trivial (by assumption))
        all_goals first | exact ev_leaf (by first | exact dN | exact dB _ | exact dE | exact dO _) (by first | exact dN | exact dB _ | exact dE | exact dO _) rfl (fun z hz => by first | (cases hz; rfl) | cases hz)
    · rw [if_neg hn]
      have ha : 0 ≤ na := by omega
      have hb : 0 ≤ nb := by omega
      repeat' (first | ((first | refine wSeqr ?_ | refine wIf ?_ | refine wReg ?_ | (refine wRet ?_; (try simp only [thenQ, blockQ]); refine ends_by ?_)); intro xx hx; have hc := trivial; (repeat' (simp only [hc, Nat.reduceBEq, go_sem, Nat.reduceAdd, Nat.reduceMul, Nat.reduceSub, Nat.reduceEqDiff, Nat.reduceLT, Nat.reduceLeDiff, Int.reduceEq, Int.reduceLT, Int.reduceLE, reduceIte, aresults, aresult, hp0, T, textsL, b2, str_eq, e_install, e_use, e_remove, ca, cb, ha, hb] at hx; (try (rw [guardL_if] at hx; split at hx <;> rename_i hc)))); all_goals (subst hx; first | (refine ⟨_, rfl, fun ht => ?_, fun ht => ?_⟩ <;> (try simp only [bbs] at ht)) | (refine ⟨_, rfl, ?_⟩; (try simp only [tupOf])))) | refine wSkip ?_ | (refine wExit ?_; simp only [thenQ, blockQ, reduceIte, Nat.reduceEqDiff]) | refine wSeq ?_ | refine wBlock ?_)
      all_goals try (exfalso; (try simp only [bbs] at *); first | omega | exact absurd trivial (by assumption))
      all_goals first | exact ev_leaf (by first | exact dN | exact dB _ | exact dE | exact dO _) (by first | exact dN | exact dB _ | exact dE | exact dO _) rfl (fun z hz => by first | (cases hz; rfl) | cases hz)
  have e_install : (w.data.toList = [105, 110, 115, 116, 97, 108, 108]) = False := eq_false n_install
  have e_use : (w.data.toList = [117, 115, 101]) = False := eq_false n_use
  have e_remove : (w.data.toList = [114, 101, 109, 111, 118, 101]) = False := eq_false n_remove
  rw [show evK ([w, a, b]) = none by simp only [evK, e_install, e_use, e_remove, if_false]]
  repeat' (first | ((first | refine wSeqr ?_ | refine wIf ?_ | refine wReg ?_ | (refine wRet ?_; (try simp only [thenQ, blockQ]); refine ends_by ?_)); intro xx hx; have hc := trivial; (repeat' (simp only [hc, Nat.reduceBEq, go_sem, Nat.reduceAdd, Nat.reduceMul, Nat.reduceSub, Nat.reduceEqDiff, Nat.reduceLT, Nat.reduceLeDiff, Int.reduceEq, Int.reduceLT, Int.reduceLE, reduceIte, aresults, aresult, hp0, T, textsL, b2, str_eq, e_install, e_use, e_remove] at hx; (try (rw [guardL_if] at hx; split at hx <;> rename_i hc)))); all_goals (subst hx; first | (refine ⟨_, rfl, fun ht => ?_, fun ht => ?_⟩ <;> (try simp only [bbs] at ht)) | (refine ⟨_, rfl, ?_⟩; (try simp only [tupOf])))) | refine wSkip ?_ | (refine wExit ?_; simp only [thenQ, blockQ, reduceIte, Nat.reduceEqDiff]) | refine wSeq ?_ | refine wBlock ?_)
  all_goals try (exfalso; (try simp only [bbs] at *); first | omega | exact absurd trivial (by assumption))
  all_goals first | exact ev_leaf (by first | exact dN | exact dB _ | exact dE | exact dO _) (by first | exact dN | exact dB _ | exact dE | exact dO _) rfl (fun z hz => by first | (cases hz; rfl) | cases hz)
theorem p_l14Key4 (w a b c : ByteArray) (hz : c.size ≤ 1048576) : ∃ v cl, EvQ (evK ([w, a, b, c])) v ∧ pure Tryz.prog cfg0 66 Tryz.f66 [textsL ([w, a, b, c])] = some (v, cl) := by
  refine pure_ex (rs := [.cell 2 26, .tmp 3]) rfl rfl ?_
  have hp0 : ∀ b, cfg0.pol 66 b = 0 := fun b => rfl
  have T : textsL ([w, a, b, c]) = .lst false (([w, a, b, c]).map fun s => [AV.v (.string s)]) := rfl
  have ca := c_sl14Number a
  have cb := c_sl14Number b
  have cc := c_sl14Read c hz
  by_cases n_install : w.data.toList = [105, 110, 115, 116, 97, 108, 108]
  · have hw := n_install
    have e_install : (w.data.toList = [105, 110, 115, 116, 97, 108, 108]) = True := eq_true hw
    have e_use : (w.data.toList = [117, 115, 101]) = False := eq_false (by rw [hw]; decide)
    have e_remove : (w.data.toList = [114, 101, 109, 111, 118, 101]) = False := eq_false (by rw [hw]; decide)
    rw [show evK ([w, a, b, c]) = (if num a < 0 ∨ num b < 0 then none else (hexRd c.data.toList).map fun d => ⟨7, num a, 0, 0, [], 1, ⟨num b, d⟩⟩) by simp only [evK, e_install, if_true]]
    unfold num
    unfold rdRes at cc
    generalize numOf 7 a.data.toList = na at *
    generalize numOf 7 b.data.toList = nb at *
    generalize hexRd c.data.toList = oc at *
    cases oc with
    | none =>
      by_cases hn : na < 0 ∨ nb < 0
      · rw [if_pos hn]
        by_cases ha : 0 ≤ na
        · have hb : ¬ 0 ≤ nb := by omega
          repeat' (first | ((first | refine wSeqr ?_ | refine wIf ?_ | refine wReg ?_ | (refine wRet ?_; (try simp only [thenQ, blockQ]); refine ends_by ?_)); intro xx hx; have hc := trivial; (repeat' (simp only [hc, Nat.reduceBEq, go_sem, Nat.reduceAdd, Nat.reduceMul, Nat.reduceSub, Nat.reduceEqDiff, Nat.reduceLT, Nat.reduceLeDiff, Int.reduceEq, Int.reduceLT, Int.reduceLE, reduceIte, aresults, aresult, hp0, T, textsL, b2, str_eq, e_install, e_use, e_remove, ca, cb, cc, ha, hb] at hx; (try (rw [guardL_if] at hx; split at hx <;> rename_i hc)))); all_goals (subst hx; first | (refine ⟨_, rfl, fun ht => ?_, fun ht => ?_⟩ <;> (try simp only [bbs] at ht)) | (refine ⟨_, rfl, ?_⟩; (try simp only [tupOf])))) | refine wSkip ?_ | (refine wExit ?_; simp only [thenQ, blockQ, reduceIte, Nat.reduceEqDiff]) | refine wSeq ?_ | refine wBlock ?_)
          all_goals try (exfalso; (try simp only [bbs] at *); first | omega | exact absurd trivial (by assumption))
          all_goals first | exact ev_leaf (by first | exact dN | exact dB _ | exact dE | exact dO _) (by first | exact dN | exact dB _ | exact dE | exact dO _) rfl (fun z hz => by first | (cases hz; rfl) | cases hz)
        · skip
          repeat' (first | ((first | refine wSeqr ?_ | refine wIf ?_ | refine wReg ?_ | (refine wRet ?_; (try simp only [thenQ, blockQ]); refine ends_by ?_)); intro xx hx; have hc := trivial; (repeat' (simp only [hc, Nat.reduceBEq, go_sem, Nat.reduceAdd, Nat.reduceMul, Nat.reduceSub, Nat.reduceEqDiff, Nat.reduceLT, Nat.reduceLeDiff, Int.reduceEq, Int.reduceLT, Int.reduceLE, reduceIte, aresults, aresult, hp0, T, textsL, b2, str_eq, e_install, e_use, e_remove, ca, cb, cc, ha] at hx; (try (rw [guardL_if] at hx; split at hx <;> rename_i hc)))); all_goals (subst hx; first | (refine ⟨_, rfl, fun ht => ?_, fun ht => ?_⟩ <;> (try simp only [bbs] at ht)) | (refine ⟨_, rfl, ?_⟩; (try simp only [tupOf])))) | refine wSkip ?_ | (refine wExit ?_; simp only [thenQ, blockQ, reduceIte, Nat.reduceEqDiff]) | refine wSeq ?_ | refine wBlock ?_)
          all_goals try (exfalso; (try simp only [bbs] at *); first | omega | exact absurd trivial (by assumption))
          all_goals first | exact ev_leaf (by first | exact dN | exact dB _ | exact dE | exact dO _) (by first | exact dN | exact dB _ | exact dE | exact dO _) rfl (fun z hz => by first | (cases hz; rfl) | cases hz)
      · rw [if_neg hn]
        have ha : 0 ≤ na := by omega
        have hb : 0 ≤ nb := by omega
        repeat' (first | ((first | refine wSeqr ?_ | refine wIf ?_ | refine wReg ?_ | (refine wRet ?_; (try simp only [thenQ, blockQ]); refine ends_by ?_)); intro xx hx; have hc := trivial; (repeat' (simp only [hc, Nat.reduceBEq, go_sem, Nat.reduceAdd, Nat.reduceMul, Nat.reduceSub, Nat.reduceEqDiff, Nat.reduceLT, Nat.reduceLeDiff, Int.reduceEq, Int.reduceLT, Int.reduceLE, reduceIte, aresults, aresult, hp0, T, textsL, b2, str_eq, e_install, e_use, e_remove, ca, cb, cc, ha, hb] at hx; (try (rw [guardL_if] at hx; split at hx <;> rename_i hc)))); all_goals (subst hx; first | (refine ⟨_, rfl, fun ht => ?_, fun ht => ?_⟩ <;> (try simp only [bbs] at ht)) | (refine ⟨_, rfl, ?_⟩; (try simp only [tupOf])))) | refine wSkip ?_ | (refine wExit ?_; simp only [thenQ, blockQ, reduceIte, Nat.reduceEqDiff]) | refine wSeq ?_ | refine wBlock ?_)
        all_goals try (exfalso; (try simp only [bbs] at *); first | omega | exact absurd trivial (by assumption))
        all_goals first | exact ev_leaf (by first | exact dN | exact dB _ | exact dE | exact dO _) (by first | exact dN | exact dB _ | exact dE | exact dO _) rfl (fun z hz => by first | (cases hz; rfl) | cases hz)
    | some dc =>
      by_cases hn : na < 0 ∨ nb < 0
      · rw [if_pos hn]
        by_cases ha : 0 ≤ na
        · have hb : ¬ 0 ≤ nb := by omega
          repeat' (first | ((first | refine wSeqr ?_ | refine wIf ?_ | refine wReg ?_ | (refine wRet ?_; (try simp only [thenQ, blockQ]); refine ends_by ?_)); intro xx hx; have hc := trivial; (repeat' (simp only [hc, Nat.reduceBEq, go_sem, Nat.reduceAdd, Nat.reduceMul, Nat.reduceSub, Nat.reduceEqDiff, Nat.reduceLT, Nat.reduceLeDiff, Int.reduceEq, Int.reduceLT, Int.reduceLE, reduceIte, aresults, aresult, hp0, T, textsL, b2, str_eq, e_install, e_use, e_remove, ca, cb, cc, ha, hb] at hx; (try (rw [guardL_if] at hx; split at hx <;> rename_i hc)))); all_goals (subst hx; first | (refine ⟨_, rfl, fun ht => ?_, fun ht => ?_⟩ <;> (try simp only [bbs] at ht)) | (refine ⟨_, rfl, ?_⟩; (try simp only [tupOf])))) | refine wSkip ?_ | (refine wExit ?_; simp only [thenQ, blockQ, reduceIte, Nat.reduceEqDiff]) | refine wSeq ?_ | refine wBlock ?_)
          all_goals try (exfalso; (try simp only [bbs] at *); first | omega | exact absurd trivial (by assumption))
          all_goals first | exact ev_leaf (by first | exact dN | exact dB _ | exact dE | exact dO _) (by first | exact dN | exact dB _ | exact dE | exact dO _) rfl (fun z hz => by first | (cases hz; rfl) | cases hz)
        · skip
          repeat' (first | ((first | refine wSeqr ?_ | refine wIf ?_ | refine wReg ?_ | (refine wRet ?_; (try simp only [thenQ, blockQ]); refine ends_by ?_)); intro xx hx; have hc := trivial; (repeat' (simp only [hc, Nat.reduceBEq, go_sem, Nat.reduceAdd, Nat.reduceMul, Nat.reduceSub, Nat.reduceEqDiff, Nat.reduceLT, Nat.reduceLeDiff, Int.reduceEq, Int.reduceLT, Int.reduceLE, reduceIte, aresults, aresult, hp0, T, textsL, b2, str_eq, e_install, e_use, e_remove, ca, cb, cc, ha] at hx; (try (rw [guardL_if] at hx; split at hx <;> rename_i hc)))); all_goals (subst hx; first | (refine ⟨_, rfl, fun ht => ?_, fun ht => ?_⟩ <;> (try simp only [bbs] at ht)) | (refine ⟨_, rfl, ?_⟩; (try simp only [tupOf])))) | refine wSkip ?_ | (refine wExit ?_; simp only [thenQ, blockQ, reduceIte, Nat.reduceEqDiff]) | refine wSeq ?_ | refine wBlock ?_)
          all_goals try (exfalso; (try simp only [bbs] at *); first | omega | exact absurd trivial (by assumption))
          all_goals first | exact ev_leaf (by first | exact dN | exact dB _ | exact dE | exact dO _) (by first | exact dN | exact dB _ | exact dE | exact dO _) rfl (fun z hz => by first | (cases hz; rfl) | cases hz)
      · rw [if_neg hn]
        have ha : 0 ≤ na := by omega
        have hb : 0 ≤ nb := by omega
        repeat' (first | ((first | refine wSeqr ?_ | refine wIf ?_ | refine wReg ?_ | (refine wRet ?_; (try simp only [thenQ, blockQ]); refine ends_by ?_)); intro xx hx; have hc := trivial; (repeat' (simp only [hc, Nat.reduceBEq, go_sem, Nat.reduceAdd, Nat.reduceMul, Nat.reduceSub, Nat.reduceEqDiff, Nat.reduceLT, Nat.reduceLeDiff, Int.reduceEq, Int.reduceLT, Int.reduceLE, reduceIte, aresults, aresult, hp0, T, textsL, b2, str_eq, e_install, e_use, e_remove, ca, cb, cc, ha, hb] at hx; (try (rw [guardL_if] at hx; split at hx <;> rename_i hc)))); all_goals (subst hx; first | (refine ⟨_, rfl, fun ht => ?_, fun ht => ?_⟩ <;> (try simp only [bbs] at ht)) | (refine ⟨_, rfl, ?_⟩; (try simp only [tupOf])))) | refine wSkip ?_ | (refine wExit ?_; simp only [thenQ, blockQ, reduceIte, Nat.reduceEqDiff]) | refine wSeq ?_ | refine wBlock ?_)
        all_goals try (exfalso; (try simp only [bbs] at *); first | omega | exact absurd trivial (by assumption))
        all_goals first | exact ev_leaf (by first | exact dN | exact dB _ | exact dE | exact dO _) (by first | exact dN | exact dB _ | exact dE | exact dO _) rfl (fun z hz => by first | (cases hz; rfl) | cases hz)
  by_cases n_use : w.data.toList = [117, 115, 101]
  · have hw := n_use
    have e_install : (w.data.toList = [105, 110, 115, 116, 97, 108, 108]) = False := eq_false (by rw [hw]; decide)
    have e_use : (w.data.toList = [117, 115, 101]) = True := eq_true hw
    have e_remove : (w.data.toList = [114, 101, 109, 111, 118, 101]) = False := eq_false (by rw [hw]; decide)
    rw [show evK ([w, a, b, c]) = none by simp only [evK, e_install, e_use, e_remove, if_false]]
    repeat' (first | ((first | refine wSeqr ?_ | refine wIf ?_ | refine wReg ?_ | (refine wRet ?_; (try simp only [thenQ, blockQ]); refine ends_by ?_)); intro xx hx; have hc := trivial; (repeat' (simp only [hc, Nat.reduceBEq, go_sem, Nat.reduceAdd, Nat.reduceMul, Nat.reduceSub, Nat.reduceEqDiff, Nat.reduceLT, Nat.reduceLeDiff, Int.reduceEq, Int.reduceLT, Int.reduceLE, reduceIte, aresults, aresult, hp0, T, textsL, b2, str_eq, e_install, e_use, e_remove] at hx; (try (rw [guardL_if] at hx; split at hx <;> rename_i hc)))); all_goals (subst hx; first | (refine ⟨_, rfl, fun ht => ?_, fun ht => ?_⟩ <;> (try simp only [bbs] at ht)) | (refine ⟨_, rfl, ?_⟩; (try simp only [tupOf])))) | refine wSkip ?_ | (refine wExit ?_; simp only [thenQ, blockQ, reduceIte, Nat.reduceEqDiff]) | refine wSeq ?_ | refine wBlock ?_)
    all_goals try (exfalso; (try simp only [bbs] at *); first | omega | exact absurd trivial (by assumption))
    all_goals first | exact ev_leaf (by first | exact dN | exact dB _ | exact dE | exact dO _) (by first | exact dN | exact dB _ | exact dE | exact dO _) rfl (fun z hz => by first | (cases hz; rfl) | cases hz)
  by_cases n_remove : w.data.toList = [114, 101, 109, 111, 118, 101]
  · have hw := n_remove
    have e_install : (w.data.toList = [105, 110, 115, 116, 97, 108, 108]) = False := eq_false (by rw [hw]; decide)
    have e_use : (w.data.toList = [117, 115, 101]) = False := eq_false (by rw [hw]; decide)
    have e_remove : (w.data.toList = [114, 101, 109, 111, 118, 101]) = True := eq_true hw
    rw [show evK ([w, a, b, c]) = none by simp only [evK, e_install, e_use, e_remove, if_false]]
    repeat' (first | ((first | refine wSeqr ?_ | refine wIf ?_ | refine wReg ?_ | (refine wRet ?_; (try simp only [thenQ, blockQ]); refine ends_by ?_)); intro xx hx; have hc := trivial; (repeat' (simp only [hc, Nat.reduceBEq, go_sem, Nat.reduceAdd, Nat.reduceMul, Nat.reduceSub, Nat.reduceEqDiff, Nat.reduceLT, Nat.reduceLeDiff, Int.reduceEq, Int.reduceLT, Int.reduceLE, reduceIte, aresults, aresult, hp0, T, textsL, b2, str_eq, e_install, e_use, e_remove] at hx; (try (rw [guardL_if] at hx; split at hx <;> rename_i hc)))); all_goals (subst hx; first | (refine ⟨_, rfl, fun ht => ?_, fun ht => ?_⟩ <;> (try simp only [bbs] at ht)) | (refine ⟨_, rfl, ?_⟩; (try simp only [tupOf])))) | refine wSkip ?_ | (refine wExit ?_; simp only [thenQ, blockQ, reduceIte, Nat.reduceEqDiff]) | refine wSeq ?_ | refine wBlock ?_)
    all_goals try (exfalso; (try simp only [bbs] at *); first | omega | exact absurd trivial (by assumption))
    all_goals first | exact ev_leaf (by first | exact dN | exact dB _ | exact dE | exact dO _) (by first | exact dN | exact dB _ | exact dE | exact dO _) rfl (fun z hz => by first | (cases hz; rfl) | cases hz)
  have e_install : (w.data.toList = [105, 110, 115, 116, 97, 108, 108]) = False := eq_false n_install
  have e_use : (w.data.toList = [117, 115, 101]) = False := eq_false n_use
  have e_remove : (w.data.toList = [114, 101, 109, 111, 118, 101]) = False := eq_false n_remove
  rw [show evK ([w, a, b, c]) = none by simp only [evK, e_install, e_use, e_remove, if_false]]
  repeat' (first | ((first | refine wSeqr ?_ | refine wIf ?_ | refine wReg ?_ | (refine wRet ?_; (try simp only [thenQ, blockQ]); refine ends_by ?_)); intro xx hx; have hc := trivial; (repeat' (simp only [hc, Nat.reduceBEq, go_sem, Nat.reduceAdd, Nat.reduceMul, Nat.reduceSub, Nat.reduceEqDiff, Nat.reduceLT, Nat.reduceLeDiff, Int.reduceEq, Int.reduceLT, Int.reduceLE, reduceIte, aresults, aresult, hp0, T, textsL, b2, str_eq, e_install, e_use, e_remove] at hx; (try (rw [guardL_if] at hx; split at hx <;> rename_i hc)))); all_goals (subst hx; first | (refine ⟨_, rfl, fun ht => ?_, fun ht => ?_⟩ <;> (try simp only [bbs] at ht)) | (refine ⟨_, rfl, ?_⟩; (try simp only [tupOf])))) | refine wSkip ?_ | (refine wExit ?_; simp only [thenQ, blockQ, reduceIte, Nat.reduceEqDiff]) | refine wSeq ?_ | refine wBlock ?_)
  all_goals try (exfalso; (try simp only [bbs] at *); first | omega | exact absurd trivial (by assumption))
  all_goals first | exact ev_leaf (by first | exact dN | exact dB _ | exact dE | exact dO _) (by first | exact dN | exact dB _ | exact dE | exact dO _) rfl (fun z hz => by first | (cases hz; rfl) | cases hz)
theorem p_l14Key5 (w a b c d : ByteArray) (r : List ByteArray) : ∃ v cl, EvQ (evK (w :: a :: b :: c :: d :: r)) v ∧ pure Tryz.prog cfg0 66 Tryz.f66 [textsL (w :: a :: b :: c :: d :: r)] = some (v, cl) := by
  refine pure_ex (rs := [.cell 2 26, .tmp 3]) rfl rfl ?_
  have hp0 : ∀ b, cfg0.pol 66 b = 0 := fun b => rfl
  have T : textsL (w :: a :: b :: c :: d :: r) = .lst false ((w :: a :: b :: c :: d :: r).map fun s => [AV.v (.string s)]) := rfl
  have l5 : (((r.length + 1 + 1 + 1 + 1 + 1 : Nat) : Int) = 3) = False := eq_false (by omega)
  have l6 : (((r.length + 1 + 1 + 1 + 1 + 1 : Nat) : Int) = 4) = False := eq_false (by omega)
  have hnone : evK (w :: a :: b :: c :: d :: r) = none := rfl
  by_cases n_install : w.data.toList = [105, 110, 115, 116, 97, 108, 108]
  · have hw := n_install
    have e_install : (w.data.toList = [105, 110, 115, 116, 97, 108, 108]) = True := eq_true hw
    have e_use : (w.data.toList = [117, 115, 101]) = False := eq_false (by rw [hw]; decide)
    have e_remove : (w.data.toList = [114, 101, 109, 111, 118, 101]) = False := eq_false (by rw [hw]; decide)
    rw [hnone]
    repeat' (first | ((first | refine wSeqr ?_ | refine wIf ?_ | refine wReg ?_ | (refine wRet ?_; (try simp only [thenQ, blockQ]); refine ends_by ?_)); intro xx hx; have hc := trivial; (repeat' (simp only [hc, Nat.reduceBEq, go_sem, Nat.reduceAdd, Nat.reduceMul, Nat.reduceSub, Nat.reduceEqDiff, Nat.reduceLT, Nat.reduceLeDiff, Int.reduceEq, Int.reduceLT, Int.reduceLE, reduceIte, aresults, aresult, hp0, T, textsL, b2, str_eq, e_install, e_use, e_remove, l5, l6, List.length_map] at hx; (try (rw [guardL_if] at hx; split at hx <;> rename_i hc)))); all_goals (subst hx; first | (refine ⟨_, rfl, fun ht => ?_, fun ht => ?_⟩ <;> (try simp only [bbs] at ht)) | (refine ⟨_, rfl, ?_⟩; (try simp only [tupOf])))) | refine wSkip ?_ | (refine wExit ?_; simp only [thenQ, blockQ, reduceIte, Nat.reduceEqDiff]) | refine wSeq ?_ | refine wBlock ?_)
    all_goals try (exfalso; (try simp only [bbs] at *); first | omega | exact absurd trivial (by assumption))
    all_goals first | exact ev_leaf (by first | exact dN | exact dB _ | exact dE | exact dO _) (by first | exact dN | exact dB _ | exact dE | exact dO _) rfl (fun z hz => by first | (cases hz; rfl) | cases hz)
  by_cases n_use : w.data.toList = [117, 115, 101]
  · have hw := n_use
    have e_install : (w.data.toList = [105, 110, 115, 116, 97, 108, 108]) = False := eq_false (by rw [hw]; decide)
    have e_use : (w.data.toList = [117, 115, 101]) = True := eq_true hw
    have e_remove : (w.data.toList = [114, 101, 109, 111, 118, 101]) = False := eq_false (by rw [hw]; decide)
    rw [hnone]
    repeat' (first | ((first | refine wSeqr ?_ | refine wIf ?_ | refine wReg ?_ | (refine wRet ?_; (try simp only [thenQ, blockQ]); refine ends_by ?_)); intro xx hx; have hc := trivial; (repeat' (simp only [hc, Nat.reduceBEq, go_sem, Nat.reduceAdd, Nat.reduceMul, Nat.reduceSub, Nat.reduceEqDiff, Nat.reduceLT, Nat.reduceLeDiff, Int.reduceEq, Int.reduceLT, Int.reduceLE, reduceIte, aresults, aresult, hp0, T, textsL, b2, str_eq, e_install, e_use, e_remove, l5, l6, List.length_map] at hx; (try (rw [guardL_if] at hx; split at hx <;> rename_i hc)))); all_goals (subst hx; first | (refine ⟨_, rfl, fun ht => ?_, fun ht => ?_⟩ <;> (try simp only [bbs] at ht)) | (refine ⟨_, rfl, ?_⟩; (try simp only [tupOf])))) | refine wSkip ?_ | (refine wExit ?_; simp only [thenQ, blockQ, reduceIte, Nat.reduceEqDiff]) | refine wSeq ?_ | refine wBlock ?_)
    all_goals try (exfalso; (try simp only [bbs] at *); first | omega | exact absurd trivial (by assumption))
    all_goals first | exact ev_leaf (by first | exact dN | exact dB _ | exact dE | exact dO _) (by first | exact dN | exact dB _ | exact dE | exact dO _) rfl (fun z hz => by first | (cases hz; rfl) | cases hz)
  by_cases n_remove : w.data.toList = [114, 101, 109, 111, 118, 101]
  · have hw := n_remove
    have e_install : (w.data.toList = [105, 110, 115, 116, 97, 108, 108]) = False := eq_false (by rw [hw]; decide)
    have e_use : (w.data.toList = [117, 115, 101]) = False := eq_false (by rw [hw]; decide)
    have e_remove : (w.data.toList = [114, 101, 109, 111, 118, 101]) = True := eq_true hw
    rw [hnone]
    repeat' (first | ((first | refine wSeqr ?_ | refine wIf ?_ | refine wReg ?_ | (refine wRet ?_; (try simp only [thenQ, blockQ]); refine ends_by ?_)); intro xx hx; have hc := trivial; (repeat' (simp only [hc, Nat.reduceBEq, go_sem, Nat.reduceAdd, Nat.reduceMul, Nat.reduceSub, Nat.reduceEqDiff, Nat.reduceLT, Nat.reduceLeDiff, Int.reduceEq, Int.reduceLT, Int.reduceLE, reduceIte, aresults, aresult, hp0, T, textsL, b2, str_eq, e_install, e_use, e_remove, l5, l6, List.length_map] at hx; (try (rw [guardL_if] at hx; split at hx <;> rename_i hc)))); all_goals (subst hx; first | (refine ⟨_, rfl, fun ht => ?_, fun ht => ?_⟩ <;> (try simp only [bbs] at ht)) | (refine ⟨_, rfl, ?_⟩; (try simp only [tupOf])))) | refine wSkip ?_ | (refine wExit ?_; simp only [thenQ, blockQ, reduceIte, Nat.reduceEqDiff]) | refine wSeq ?_ | refine wBlock ?_)
    all_goals try (exfalso; (try simp only [bbs] at *); first | omega | exact absurd trivial (by assumption))
    all_goals first | exact ev_leaf (by first | exact dN | exact dB _ | exact dE | exact dO _) (by first | exact dN | exact dB _ | exact dE | exact dO _) rfl (fun z hz => by first | (cases hz; rfl) | cases hz)
  have e_install : (w.data.toList = [105, 110, 115, 116, 97, 108, 108]) = False := eq_false n_install
  have e_use : (w.data.toList = [117, 115, 101]) = False := eq_false n_use
  have e_remove : (w.data.toList = [114, 101, 109, 111, 118, 101]) = False := eq_false n_remove
  rw [hnone]
  repeat' (first | ((first | refine wSeqr ?_ | refine wIf ?_ | refine wReg ?_ | (refine wRet ?_; (try simp only [thenQ, blockQ]); refine ends_by ?_)); intro xx hx; have hc := trivial; (repeat' (simp only [hc, Nat.reduceBEq, go_sem, Nat.reduceAdd, Nat.reduceMul, Nat.reduceSub, Nat.reduceEqDiff, Nat.reduceLT, Nat.reduceLeDiff, Int.reduceEq, Int.reduceLT, Int.reduceLE, reduceIte, aresults, aresult, hp0, T, textsL, b2, str_eq, e_install, e_use, e_remove, l5, l6, List.length_map] at hx; (try (rw [guardL_if] at hx; split at hx <;> rename_i hc)))); all_goals (subst hx; first | (refine ⟨_, rfl, fun ht => ?_, fun ht => ?_⟩ <;> (try simp only [bbs] at ht)) | (refine ⟨_, rfl, ?_⟩; (try simp only [tupOf])))) | refine wSkip ?_ | (refine wExit ?_; simp only [thenQ, blockQ, reduceIte, Nat.reduceEqDiff]) | refine wSeq ?_ | refine wBlock ?_)
  all_goals try (exfalso; (try simp only [bbs] at *); first | omega | exact absurd trivial (by assumption))
  all_goals first | exact ev_leaf (by first | exact dN | exact dB _ | exact dE | exact dO _) (by first | exact dN | exact dB _ | exact dE | exact dO _) rfl (fun z hz => by first | (cases hz; rfl) | cases hz)
end
end Go.Proofs.YtakbbccdnkigpaaGreatDoor
namespace Go.Proofs.YtakbbccdnkigpaaGreatDoor
open Go Go.RowKit Go.Proofs.YtakbbccdnkigpaaGreatDoor.Eng
set_option linter.unusedSimpArgs false
set_option linter.unusedVariables false
set_option maxRecDepth 100000
set_option maxHeartbeats 2000000
noncomputable section
theorem c_l14Key (l : List ByteArray) (h2 : 2 ≤ l.length) (hz : ∀ z ∈ l, z.size ≤ 1048576) : ∃ e : EventM, (∀ x, evK l = some x → e = x) ∧ ∀ H, call Tryz.prog cfg0 0 66 [textsL l] H = some (.tup [.agg [.v (.int .i64 e.Kind), .v (.int .i64 e.Node), .v (.int .i64 e.At), .v (.int .i64 e.Mask), bytesL e.Data, .v (.int .i64 e.Op), .v (.int .i64 e.Key.Id), bytesL e.Key.Bytes], .v (.bool (evK l).isSome)], H) := by
  have key : ∃ v cl, EvQ (evK l) v ∧ pure Tryz.prog cfg0 66 Tryz.f66 [textsL l] = some (v, cl) := by
    match l, h2, hz with
    | [w, a], _, _ => exact p_l14Key2 w a
    | [w, a, b], _, _ => exact p_l14Key3 w a b
    | [w, a, b, c], _, hz => exact p_l14Key4 w a b c (hz c (by simp))
    | w :: a :: b :: c :: d :: r, _, _ => exact p_l14Key5 w a b c d r
    | [_], h, _ => simp at h
    | [], h, _ => simp at h
  obtain ⟨v, cl, ⟨e, rfl, he⟩, hp⟩ := key
  exact ⟨e, he, fun H => call_fz Tryz.func66 rfl ok_l14Key rfl (by simp only [fz_cons, fz_nil, fz_texts, and_self]) hp H⟩
theorem wrap_b {n : Int} (h : 0 ≤ n ∧ n ≤ 255) : IntKind.wrap .u8 n = n := by rw [wrap8]; omega
theorem ok_l14Event : fnOk Tryz.prog cfg0 29 Tryz.f29 = true := by kernel_rfl
theorem p_l14Event0  (hz : ∀ z ∈ ([] : List ByteArray), z.size ≤ 1048576) : ∃ v cl, EvQ (evS ([])) v ∧ pure Tryz.prog cfg0 29 Tryz.f29 [textsL ([])] = some (v, cl) := by
  refine pure_ex (rs := [.cell 2 26, .tmp 3]) rfl rfl ?_
  have hp0 : ∀ b, cfg0.pol 29 b = 0 := fun b => rfl
  have T : textsL ([]) = .lst false (([] : List ByteArray).map fun s => [AV.v (.string s)]) := rfl
  rw [show evS ([]) = none from rfl]
  repeat' (first | ((first | refine wSeqr ?_ | refine wIf ?_ | refine wReg ?_ | (refine wRet ?_; (try simp only [thenQ, blockQ]); refine ends_by ?_)); intro xx hx; have hc := trivial; (repeat' (simp only [hc, Nat.reduceBEq, go_sem, Nat.reduceAdd, Nat.reduceMul, Nat.reduceSub, Nat.reduceEqDiff, Nat.reduceLT, Nat.reduceLeDiff, Int.reduceEq, Int.reduceLT, Int.reduceLE, reduceIte, aresults, aresult, hp0, T, textsL, b2, str_eq] at hx; (try (rw [guardL_if] at hx; split at hx <;> rename_i hc)))); all_goals (subst hx; first | (refine ⟨_, rfl, fun ht => ?_, fun ht => ?_⟩ <;> (try simp only [bbs] at ht)) | (refine ⟨_, rfl, ?_⟩; (try simp only [tupOf])))) | refine wSkip ?_ | (refine wExit ?_; simp only [thenQ, blockQ, reduceIte, Nat.reduceEqDiff]) | refine wSeq ?_ | refine wBlock ?_)
  all_goals try (exfalso; (try simp only [bbs] at *); first | omega | exact absurd trivial (by assumption))
  all_goals first | exact ev_leaf (by first | exact dN | exact dB _ | exact dE | exact dO _) (by first | exact dN | exact dB _ | exact dE | exact dO _) rfl (fun z hz => by first | (cases hz; rfl) | cases hz)
theorem p_l14Event1 (w : ByteArray) (hz : ∀ z ∈ ([w] : List ByteArray), z.size ≤ 1048576) : ∃ v cl, EvQ (evS ([w])) v ∧ pure Tryz.prog cfg0 29 Tryz.f29 [textsL ([w])] = some (v, cl) := by
  refine pure_ex (rs := [.cell 2 26, .tmp 3]) rfl rfl ?_
  have hp0 : ∀ b, cfg0.pol 29 b = 0 := fun b => rfl
  have T : textsL ([w]) = .lst false (([w] : List ByteArray).map fun s => [AV.v (.string s)]) := rfl
  rw [show evS ([w]) = none from rfl]
  repeat' (first | ((first | refine wSeqr ?_ | refine wIf ?_ | refine wReg ?_ | (refine wRet ?_; (try simp only [thenQ, blockQ]); refine ends_by ?_)); intro xx hx; have hc := trivial; (repeat' (simp only [hc, Nat.reduceBEq, go_sem, Nat.reduceAdd, Nat.reduceMul, Nat.reduceSub, Nat.reduceEqDiff, Nat.reduceLT, Nat.reduceLeDiff, Int.reduceEq, Int.reduceLT, Int.reduceLE, reduceIte, aresults, aresult, hp0, T, textsL, b2, str_eq] at hx; (try (rw [guardL_if] at hx; split at hx <;> rename_i hc)))); all_goals (subst hx; first | (refine ⟨_, rfl, fun ht => ?_, fun ht => ?_⟩ <;> (try simp only [bbs] at ht)) | (refine ⟨_, rfl, ?_⟩; (try simp only [tupOf])))) | refine wSkip ?_ | (refine wExit ?_; simp only [thenQ, blockQ, reduceIte, Nat.reduceEqDiff]) | refine wSeq ?_ | refine wBlock ?_)
  all_goals try (exfalso; (try simp only [bbs] at *); first | omega | exact absurd trivial (by assumption))
  all_goals first | exact ev_leaf (by first | exact dN | exact dB _ | exact dE | exact dO _) (by first | exact dN | exact dB _ | exact dE | exact dO _) rfl (fun z hz => by first | (cases hz; rfl) | cases hz)
theorem p_l14Event2 (w a : ByteArray) (hz : ∀ z ∈ ([w, a] : List ByteArray), z.size ≤ 1048576) : ∃ v cl, EvQ (evS ([w, a])) v ∧ pure Tryz.prog cfg0 29 Tryz.f29 [textsL ([w, a])] = some (v, cl) := by
  refine pure_ex (rs := [.cell 2 26, .tmp 3]) rfl rfl ?_
  have hp0 : ∀ b, cfg0.pol 29 b = 0 := fun b => rfl
  have T : textsL ([w, a]) = .lst false (([w, a] : List ByteArray).map fun s => [AV.v (.string s)]) := rfl
  have ca := c_sl14Number a
  have hna : num a = numOf 7 a.data.toList := rfl
  obtain ⟨e, he, ck⟩ := c_l14Key ([w, a]) (by simp) hz
  rw [T] at ck
  simp only [List.map_cons, List.map_nil] at ck
  by_cases ha : num a < 0
  · rw [show evS ([w, a]) = none by simp only [evS, ha, if_true]]
    rw [hna] at ha
    repeat' (first | ((first | refine wSeqr ?_ | refine wIf ?_ | refine wReg ?_ | (refine wRet ?_; (try simp only [thenQ, blockQ]); refine ends_by ?_)); intro xx hx; have hc := trivial; (repeat' (simp only [hc, Nat.reduceBEq, go_sem, Nat.reduceAdd, Nat.reduceMul, Nat.reduceSub, Nat.reduceEqDiff, Nat.reduceLT, Nat.reduceLeDiff, Int.reduceEq, Int.reduceLT, Int.reduceLE, reduceIte, aresults, aresult, hp0, T, textsL, b2, str_eq, ca, ha] at hx; (try (rw [guardL_if] at hx; split at hx <;> rename_i hc)))); all_goals (subst hx; first | (refine ⟨_, rfl, fun ht => ?_, fun ht => ?_⟩ <;> (try simp only [bbs] at ht)) | (refine ⟨_, rfl, ?_⟩; (try simp only [tupOf])))) | refine wSkip ?_ | (refine wExit ?_; simp only [thenQ, blockQ, reduceIte, Nat.reduceEqDiff]) | refine wSeq ?_ | refine wBlock ?_)
    all_goals try (exfalso; (try simp only [bbs] at *); first | omega | exact absurd trivial (by assumption))
    all_goals first | exact ev_leaf (by first | exact dN | exact dB _ | exact dE | exact dO _) (by first | exact dN | exact dB _ | exact dE | exact dO _) rfl (fun z hz => by first | (cases hz; rfl) | cases hz)
  by_cases n_push : w.data.toList = [112, 117, 115, 104]
  · have hw := n_push
    have e_push : (w.data.toList = [112, 117, 115, 104]) = True := eq_true hw
    have e_turn : (w.data.toList = [116, 117, 114, 110]) = False := eq_false (by rw [hw]; decide)
    have e_tick : (w.data.toList = [116, 105, 99, 107]) = False := eq_false (by rw [hw]; decide)
    have e_stop : (w.data.toList = [115, 116, 111, 112]) = False := eq_false (by rw [hw]; decide)
    have e_come : (w.data.toList = [99, 111, 109, 101]) = False := eq_false (by rw [hw]; decide)
    have e_close : (w.data.toList = [108, 111, 115, 101]) = False := eq_false (by rw [hw]; decide)
    have e_copy : (w.data.toList = [99, 111, 112, 121]) = False := eq_false (by rw [hw]; decide)
    rw [show evS ([w, a]) = some ⟨6, num a, 0, 0, [], 0, ⟨0, []⟩⟩ by simp only [evS, ha, e_push, e_turn, e_tick, e_stop, e_come, e_close, e_copy, if_false, if_true]]
    rw [hna] at *
    repeat' (first | ((first | refine wSeqr ?_ | refine wIf ?_ | refine wReg ?_ | (refine wRet ?_; (try simp only [thenQ, blockQ]); refine ends_by ?_)); intro xx hx; have hc := trivial; (repeat' (simp only [hc, Nat.reduceBEq, go_sem, Nat.reduceAdd, Nat.reduceMul, Nat.reduceSub, Nat.reduceEqDiff, Nat.reduceLT, Nat.reduceLeDiff, Int.reduceEq, Int.reduceLT, Int.reduceLE, reduceIte, aresults, aresult, hp0, T, textsL, b2, str_eq, ca, ha, e_push, e_turn, e_tick, e_stop, e_come, e_close, e_copy] at hx; (try (rw [guardL_if] at hx; split at hx <;> rename_i hc)))); all_goals (subst hx; first | (refine ⟨_, rfl, fun ht => ?_, fun ht => ?_⟩ <;> (try simp only [bbs] at ht)) | (refine ⟨_, rfl, ?_⟩; (try simp only [tupOf])))) | refine wSkip ?_ | (refine wExit ?_; simp only [thenQ, blockQ, reduceIte, Nat.reduceEqDiff]) | refine wSeq ?_ | refine wBlock ?_)
    all_goals try (exfalso; (try simp only [bbs] at *); first | omega | exact absurd trivial (by assumption))
    all_goals first | exact ev_leaf (by first | exact dN | exact dB _ | exact dE | exact dO _) (by first | exact dN | exact dB _ | exact dE | exact dO _) rfl (fun z hz => by first | (cases hz; rfl) | cases hz)
  by_cases n_turn : w.data.toList = [116, 117, 114, 110]
  · have hw := n_turn
    have e_push : (w.data.toList = [112, 117, 115, 104]) = False := eq_false (by rw [hw]; decide)
    have e_turn : (w.data.toList = [116, 117, 114, 110]) = True := eq_true hw
    have e_tick : (w.data.toList = [116, 105, 99, 107]) = False := eq_false (by rw [hw]; decide)
    have e_stop : (w.data.toList = [115, 116, 111, 112]) = False := eq_false (by rw [hw]; decide)
    have e_come : (w.data.toList = [99, 111, 109, 101]) = False := eq_false (by rw [hw]; decide)
    have e_close : (w.data.toList = [108, 111, 115, 101]) = False := eq_false (by rw [hw]; decide)
    have e_copy : (w.data.toList = [99, 111, 112, 121]) = False := eq_false (by rw [hw]; decide)
    rw [show evS ([w, a]) = evK ([w, a]) by simp only [evS, evK, ha, e_push, e_turn, e_tick, e_stop, e_come, e_close, e_copy, if_false]]
    rw [hna] at ha
    repeat' (first | ((first | refine wSeqr ?_ | refine wIf ?_ | refine wReg ?_ | (refine wRet ?_; (try simp only [thenQ, blockQ]); refine ends_by ?_)); intro xx hx; have hc := trivial; (repeat' (simp only [hc, Nat.reduceBEq, go_sem, Nat.reduceAdd, Nat.reduceMul, Nat.reduceSub, Nat.reduceEqDiff, Nat.reduceLT, Nat.reduceLeDiff, Int.reduceEq, Int.reduceLT, Int.reduceLE, reduceIte, aresults, aresult, hp0, T, textsL, b2, str_eq, ca, ha, ck, e_push, e_turn, e_tick, e_stop, e_come, e_close, e_copy] at hx; (try (rw [guardL_if] at hx; split at hx <;> rename_i hc)))); all_goals (subst hx; first | (refine ⟨_, rfl, fun ht => ?_, fun ht => ?_⟩ <;> (try simp only [bbs] at ht)) | (refine ⟨_, rfl, ?_⟩; (try simp only [tupOf])))) | refine wSkip ?_ | (refine wExit ?_; simp only [thenQ, blockQ, reduceIte, Nat.reduceEqDiff]) | refine wSeq ?_ | refine wBlock ?_)
    all_goals try (exfalso; (try simp only [bbs] at *); first | omega | exact absurd trivial (by assumption))
    exact ev_leaf (dB _) (dB _) rfl he
  by_cases n_tick : w.data.toList = [116, 105, 99, 107]
  · have hw := n_tick
    have e_push : (w.data.toList = [112, 117, 115, 104]) = False := eq_false (by rw [hw]; decide)
    have e_turn : (w.data.toList = [116, 117, 114, 110]) = False := eq_false (by rw [hw]; decide)
    have e_tick : (w.data.toList = [116, 105, 99, 107]) = True := eq_true hw
    have e_stop : (w.data.toList = [115, 116, 111, 112]) = False := eq_false (by rw [hw]; decide)
    have e_come : (w.data.toList = [99, 111, 109, 101]) = False := eq_false (by rw [hw]; decide)
    have e_close : (w.data.toList = [108, 111, 115, 101]) = False := eq_false (by rw [hw]; decide)
    have e_copy : (w.data.toList = [99, 111, 112, 121]) = False := eq_false (by rw [hw]; decide)
    rw [show evS ([w, a]) = some ⟨1, num a, 0, 0, [], 0, ⟨0, []⟩⟩ by simp only [evS, ha, e_push, e_turn, e_tick, e_stop, e_come, e_close, e_copy, if_false, if_true]]
    rw [hna] at *
    repeat' (first | ((first | refine wSeqr ?_ | refine wIf ?_ | refine wReg ?_ | (refine wRet ?_; (try simp only [thenQ, blockQ]); refine ends_by ?_)); intro xx hx; have hc := trivial; (repeat' (simp only [hc, Nat.reduceBEq, go_sem, Nat.reduceAdd, Nat.reduceMul, Nat.reduceSub, Nat.reduceEqDiff, Nat.reduceLT, Nat.reduceLeDiff, Int.reduceEq, Int.reduceLT, Int.reduceLE, reduceIte, aresults, aresult, hp0, T, textsL, b2, str_eq, ca, ha, e_push, e_turn, e_tick, e_stop, e_come, e_close, e_copy] at hx; (try (rw [guardL_if] at hx; split at hx <;> rename_i hc)))); all_goals (subst hx; first | (refine ⟨_, rfl, fun ht => ?_, fun ht => ?_⟩ <;> (try simp only [bbs] at ht)) | (refine ⟨_, rfl, ?_⟩; (try simp only [tupOf])))) | refine wSkip ?_ | (refine wExit ?_; simp only [thenQ, blockQ, reduceIte, Nat.reduceEqDiff]) | refine wSeq ?_ | refine wBlock ?_)
    all_goals try (exfalso; (try simp only [bbs] at *); first | omega | exact absurd trivial (by assumption))
    all_goals first | exact ev_leaf (by first | exact dN | exact dB _ | exact dE | exact dO _) (by first | exact dN | exact dB _ | exact dE | exact dO _) rfl (fun z hz => by first | (cases hz; rfl) | cases hz)
  by_cases n_stop : w.data.toList = [115, 116, 111, 112]
  · have hw := n_stop
    have e_push : (w.data.toList = [112, 117, 115, 104]) = False := eq_false (by rw [hw]; decide)
    have e_turn : (w.data.toList = [116, 117, 114, 110]) = False := eq_false (by rw [hw]; decide)
    have e_tick : (w.data.toList = [116, 105, 99, 107]) = False := eq_false (by rw [hw]; decide)
    have e_stop : (w.data.toList = [115, 116, 111, 112]) = True := eq_true hw
    have e_come : (w.data.toList = [99, 111, 109, 101]) = False := eq_false (by rw [hw]; decide)
    have e_close : (w.data.toList = [108, 111, 115, 101]) = False := eq_false (by rw [hw]; decide)
    have e_copy : (w.data.toList = [99, 111, 112, 121]) = False := eq_false (by rw [hw]; decide)
    rw [show evS ([w, a]) = some ⟨8, num a, 0, 0, [], 0, ⟨0, []⟩⟩ by simp only [evS, ha, e_push, e_turn, e_tick, e_stop, e_come, e_close, e_copy, if_false, if_true]]
    rw [hna] at *
    repeat' (first | ((first | refine wSeqr ?_ | refine wIf ?_ | refine wReg ?_ | (refine wRet ?_; (try simp only [thenQ, blockQ]); refine ends_by ?_)); intro xx hx; have hc := trivial; (repeat' (simp only [hc, Nat.reduceBEq, go_sem, Nat.reduceAdd, Nat.reduceMul, Nat.reduceSub, Nat.reduceEqDiff, Nat.reduceLT, Nat.reduceLeDiff, Int.reduceEq, Int.reduceLT, Int.reduceLE, reduceIte, aresults, aresult, hp0, T, textsL, b2, str_eq, ca, ha, e_push, e_turn, e_tick, e_stop, e_come, e_close, e_copy] at hx; (try (rw [guardL_if] at hx; split at hx <;> rename_i hc)))); all_goals (subst hx; first | (refine ⟨_, rfl, fun ht => ?_, fun ht => ?_⟩ <;> (try simp only [bbs] at ht)) | (refine ⟨_, rfl, ?_⟩; (try simp only [tupOf])))) | refine wSkip ?_ | (refine wExit ?_; simp only [thenQ, blockQ, reduceIte, Nat.reduceEqDiff]) | refine wSeq ?_ | refine wBlock ?_)
    all_goals try (exfalso; (try simp only [bbs] at *); first | omega | exact absurd trivial (by assumption))
    all_goals first | exact ev_leaf (by first | exact dN | exact dB _ | exact dE | exact dO _) (by first | exact dN | exact dB _ | exact dE | exact dO _) rfl (fun z hz => by first | (cases hz; rfl) | cases hz)
  by_cases n_come : w.data.toList = [99, 111, 109, 101]
  · have hw := n_come
    have e_push : (w.data.toList = [112, 117, 115, 104]) = False := eq_false (by rw [hw]; decide)
    have e_turn : (w.data.toList = [116, 117, 114, 110]) = False := eq_false (by rw [hw]; decide)
    have e_tick : (w.data.toList = [116, 105, 99, 107]) = False := eq_false (by rw [hw]; decide)
    have e_stop : (w.data.toList = [115, 116, 111, 112]) = False := eq_false (by rw [hw]; decide)
    have e_come : (w.data.toList = [99, 111, 109, 101]) = True := eq_true hw
    have e_close : (w.data.toList = [108, 111, 115, 101]) = False := eq_false (by rw [hw]; decide)
    have e_copy : (w.data.toList = [99, 111, 112, 121]) = False := eq_false (by rw [hw]; decide)
    rw [show evS ([w, a]) = some ⟨2, 0, num a, 0, [], 0, ⟨0, []⟩⟩ by simp only [evS, ha, e_push, e_turn, e_tick, e_stop, e_come, e_close, e_copy, if_false, if_true]]
    rw [hna] at *
    repeat' (first | ((first | refine wSeqr ?_ | refine wIf ?_ | refine wReg ?_ | (refine wRet ?_; (try simp only [thenQ, blockQ]); refine ends_by ?_)); intro xx hx; have hc := trivial; (repeat' (simp only [hc, Nat.reduceBEq, go_sem, Nat.reduceAdd, Nat.reduceMul, Nat.reduceSub, Nat.reduceEqDiff, Nat.reduceLT, Nat.reduceLeDiff, Int.reduceEq, Int.reduceLT, Int.reduceLE, reduceIte, aresults, aresult, hp0, T, textsL, b2, str_eq, ca, ha, e_push, e_turn, e_tick, e_stop, e_come, e_close, e_copy] at hx; (try (rw [guardL_if] at hx; split at hx <;> rename_i hc)))); all_goals (subst hx; first | (refine ⟨_, rfl, fun ht => ?_, fun ht => ?_⟩ <;> (try simp only [bbs] at ht)) | (refine ⟨_, rfl, ?_⟩; (try simp only [tupOf])))) | refine wSkip ?_ | (refine wExit ?_; simp only [thenQ, blockQ, reduceIte, Nat.reduceEqDiff]) | refine wSeq ?_ | refine wBlock ?_)
    all_goals try (exfalso; (try simp only [bbs] at *); first | omega | exact absurd trivial (by assumption))
    all_goals first | exact ev_leaf (by first | exact dN | exact dB _ | exact dE | exact dO _) (by first | exact dN | exact dB _ | exact dE | exact dO _) rfl (fun z hz => by first | (cases hz; rfl) | cases hz)
  by_cases n_close : w.data.toList = [108, 111, 115, 101]
  · have hw := n_close
    have e_push : (w.data.toList = [112, 117, 115, 104]) = False := eq_false (by rw [hw]; decide)
    have e_turn : (w.data.toList = [116, 117, 114, 110]) = False := eq_false (by rw [hw]; decide)
    have e_tick : (w.data.toList = [116, 105, 99, 107]) = False := eq_false (by rw [hw]; decide)
    have e_stop : (w.data.toList = [115, 116, 111, 112]) = False := eq_false (by rw [hw]; decide)
    have e_come : (w.data.toList = [99, 111, 109, 101]) = False := eq_false (by rw [hw]; decide)
    have e_close : (w.data.toList = [108, 111, 115, 101]) = True := eq_true hw
    have e_copy : (w.data.toList = [99, 111, 112, 121]) = False := eq_false (by rw [hw]; decide)
    rw [show evS ([w, a]) = some ⟨3, 0, num a, 0, [], 0, ⟨0, []⟩⟩ by simp only [evS, ha, e_push, e_turn, e_tick, e_stop, e_come, e_close, e_copy, if_false, if_true]]
    rw [hna] at *
    repeat' (first | ((first | refine wSeqr ?_ | refine wIf ?_ | refine wReg ?_ | (refine wRet ?_; (try simp only [thenQ, blockQ]); refine ends_by ?_)); intro xx hx; have hc := trivial; (repeat' (simp only [hc, Nat.reduceBEq, go_sem, Nat.reduceAdd, Nat.reduceMul, Nat.reduceSub, Nat.reduceEqDiff, Nat.reduceLT, Nat.reduceLeDiff, Int.reduceEq, Int.reduceLT, Int.reduceLE, reduceIte, aresults, aresult, hp0, T, textsL, b2, str_eq, ca, ha, e_push, e_turn, e_tick, e_stop, e_come, e_close, e_copy] at hx; (try (rw [guardL_if] at hx; split at hx <;> rename_i hc)))); all_goals (subst hx; first | (refine ⟨_, rfl, fun ht => ?_, fun ht => ?_⟩ <;> (try simp only [bbs] at ht)) | (refine ⟨_, rfl, ?_⟩; (try simp only [tupOf])))) | refine wSkip ?_ | (refine wExit ?_; simp only [thenQ, blockQ, reduceIte, Nat.reduceEqDiff]) | refine wSeq ?_ | refine wBlock ?_)
    all_goals try (exfalso; (try simp only [bbs] at *); first | omega | exact absurd trivial (by assumption))
    all_goals first | exact ev_leaf (by first | exact dN | exact dB _ | exact dE | exact dO _) (by first | exact dN | exact dB _ | exact dE | exact dO _) rfl (fun z hz => by first | (cases hz; rfl) | cases hz)
  by_cases n_copy : w.data.toList = [99, 111, 112, 121]
  · have hw := n_copy
    have e_push : (w.data.toList = [112, 117, 115, 104]) = False := eq_false (by rw [hw]; decide)
    have e_turn : (w.data.toList = [116, 117, 114, 110]) = False := eq_false (by rw [hw]; decide)
    have e_tick : (w.data.toList = [116, 105, 99, 107]) = False := eq_false (by rw [hw]; decide)
    have e_stop : (w.data.toList = [115, 116, 111, 112]) = False := eq_false (by rw [hw]; decide)
    have e_come : (w.data.toList = [99, 111, 109, 101]) = False := eq_false (by rw [hw]; decide)
    have e_close : (w.data.toList = [108, 111, 115, 101]) = False := eq_false (by rw [hw]; decide)
    have e_copy : (w.data.toList = [99, 111, 112, 121]) = True := eq_true hw
    rw [show evS ([w, a]) = some ⟨4, 0, num a, 0, [], 0, ⟨0, []⟩⟩ by simp only [evS, ha, e_push, e_turn, e_tick, e_stop, e_come, e_close, e_copy, if_false, if_true]]
    rw [hna] at *
    repeat' (first | ((first | refine wSeqr ?_ | refine wIf ?_ | refine wReg ?_ | (refine wRet ?_; (try simp only [thenQ, blockQ]); refine ends_by ?_)); intro xx hx; have hc := trivial; (repeat' (simp only [hc, Nat.reduceBEq, go_sem, Nat.reduceAdd, Nat.reduceMul, Nat.reduceSub, Nat.reduceEqDiff, Nat.reduceLT, Nat.reduceLeDiff, Int.reduceEq, Int.reduceLT, Int.reduceLE, reduceIte, aresults, aresult, hp0, T, textsL, b2, str_eq, ca, ha, e_push, e_turn, e_tick, e_stop, e_come, e_close, e_copy] at hx; (try (rw [guardL_if] at hx; split at hx <;> rename_i hc)))); all_goals (subst hx; first | (refine ⟨_, rfl, fun ht => ?_, fun ht => ?_⟩ <;> (try simp only [bbs] at ht)) | (refine ⟨_, rfl, ?_⟩; (try simp only [tupOf])))) | refine wSkip ?_ | (refine wExit ?_; simp only [thenQ, blockQ, reduceIte, Nat.reduceEqDiff]) | refine wSeq ?_ | refine wBlock ?_)
    all_goals try (exfalso; (try simp only [bbs] at *); first | omega | exact absurd trivial (by assumption))
    all_goals first | exact ev_leaf (by first | exact dN | exact dB _ | exact dE | exact dO _) (by first | exact dN | exact dB _ | exact dE | exact dO _) rfl (fun z hz => by first | (cases hz; rfl) | cases hz)
  have e_push : (w.data.toList = [112, 117, 115, 104]) = False := eq_false n_push
  have e_turn : (w.data.toList = [116, 117, 114, 110]) = False := eq_false n_turn
  have e_tick : (w.data.toList = [116, 105, 99, 107]) = False := eq_false n_tick
  have e_stop : (w.data.toList = [115, 116, 111, 112]) = False := eq_false n_stop
  have e_come : (w.data.toList = [99, 111, 109, 101]) = False := eq_false n_come
  have e_close : (w.data.toList = [108, 111, 115, 101]) = False := eq_false n_close
  have e_copy : (w.data.toList = [99, 111, 112, 121]) = False := eq_false n_copy
  rw [show evS ([w, a]) = evK ([w, a]) by simp only [evS, evK, ha, e_push, e_turn, e_tick, e_stop, e_come, e_close, e_copy, if_false]]
  rw [hna] at ha
  repeat' (first | ((first | refine wSeqr ?_ | refine wIf ?_ | refine wReg ?_ | (refine wRet ?_; (try simp only [thenQ, blockQ]); refine ends_by ?_)); intro xx hx; have hc := trivial; (repeat' (simp only [hc, Nat.reduceBEq, go_sem, Nat.reduceAdd, Nat.reduceMul, Nat.reduceSub, Nat.reduceEqDiff, Nat.reduceLT, Nat.reduceLeDiff, Int.reduceEq, Int.reduceLT, Int.reduceLE, reduceIte, aresults, aresult, hp0, T, textsL, b2, str_eq, ca, ha, ck, e_push, e_turn, e_tick, e_stop, e_come, e_close, e_copy] at hx; (try (rw [guardL_if] at hx; split at hx <;> rename_i hc)))); all_goals (subst hx; first | (refine ⟨_, rfl, fun ht => ?_, fun ht => ?_⟩ <;> (try simp only [bbs] at ht)) | (refine ⟨_, rfl, ?_⟩; (try simp only [tupOf])))) | refine wSkip ?_ | (refine wExit ?_; simp only [thenQ, blockQ, reduceIte, Nat.reduceEqDiff]) | refine wSeq ?_ | refine wBlock ?_)
  all_goals try (exfalso; (try simp only [bbs] at *); first | omega | exact absurd trivial (by assumption))
  exact ev_leaf (dB _) (dB _) rfl he
theorem p_l14Event3 (w a b : ByteArray) (hz : ∀ z ∈ ([w, a, b] : List ByteArray), z.size ≤ 1048576) : ∃ v cl, EvQ (evS ([w, a, b])) v ∧ pure Tryz.prog cfg0 29 Tryz.f29 [textsL ([w, a, b])] = some (v, cl) := by
  refine pure_ex (rs := [.cell 2 26, .tmp 3]) rfl rfl ?_
  have hp0 : ∀ b, cfg0.pol 29 b = 0 := fun b => rfl
  have T : textsL ([w, a, b]) = .lst false (([w, a, b] : List ByteArray).map fun s => [AV.v (.string s)]) := rfl
  have ca := c_sl14Number a
  have hna : num a = numOf 7 a.data.toList := rfl
  obtain ⟨e, he, ck⟩ := c_l14Key ([w, a, b]) (by simp) hz
  rw [T] at ck
  simp only [List.map_cons, List.map_nil] at ck
  by_cases ha : num a < 0
  · rw [show evS ([w, a, b]) = none by simp only [evS, ha, if_true]]
    rw [hna] at ha
    repeat' (first | ((first | refine wSeqr ?_ | refine wIf ?_ | refine wReg ?_ | (refine wRet ?_; (try simp only [thenQ, blockQ]); refine ends_by ?_)); intro xx hx; have hc := trivial; (repeat' (simp only [hc, Nat.reduceBEq, go_sem, Nat.reduceAdd, Nat.reduceMul, Nat.reduceSub, Nat.reduceEqDiff, Nat.reduceLT, Nat.reduceLeDiff, Int.reduceEq, Int.reduceLT, Int.reduceLE, reduceIte, aresults, aresult, hp0, T, textsL, b2, str_eq, ca, ha] at hx; (try (rw [guardL_if] at hx; split at hx <;> rename_i hc)))); all_goals (subst hx; first | (refine ⟨_, rfl, fun ht => ?_, fun ht => ?_⟩ <;> (try simp only [bbs] at ht)) | (refine ⟨_, rfl, ?_⟩; (try simp only [tupOf])))) | refine wSkip ?_ | (refine wExit ?_; simp only [thenQ, blockQ, reduceIte, Nat.reduceEqDiff]) | refine wSeq ?_ | refine wBlock ?_)
    all_goals try (exfalso; (try simp only [bbs] at *); first | omega | exact absurd trivial (by assumption))
    all_goals first | exact ev_leaf (by first | exact dN | exact dB _ | exact dE | exact dO _) (by first | exact dN | exact dB _ | exact dE | exact dO _) rfl (fun z hz => by first | (cases hz; rfl) | cases hz)
  by_cases n_push : w.data.toList = [112, 117, 115, 104]
  · have hw := n_push
    have e_push : (w.data.toList = [112, 117, 115, 104]) = True := eq_true hw
    have e_turn : (w.data.toList = [116, 117, 114, 110]) = False := eq_false (by rw [hw]; decide)
    have cb := c_sl14Read b (hz b (by simp))
    rw [show evS ([w, a, b]) = (hexRd b.data.toList).map fun d => ⟨6, num a, 0, 0, d, 0, ⟨0, []⟩⟩ by simp only [evS, ha, e_push, e_turn, if_false, if_true]]
    rw [hna] at *
    unfold rdRes at cb
    generalize hexRd b.data.toList = ob at *
    cases ob with
    | none =>
      repeat' (first | ((first | refine wSeqr ?_ | refine wIf ?_ | refine wReg ?_ | (refine wRet ?_; (try simp only [thenQ, blockQ]); refine ends_by ?_)); intro xx hx; have hc := trivial; (repeat' (simp only [hc, Nat.reduceBEq, go_sem, Nat.reduceAdd, Nat.reduceMul, Nat.reduceSub, Nat.reduceEqDiff, Nat.reduceLT, Nat.reduceLeDiff, Int.reduceEq, Int.reduceLT, Int.reduceLE, reduceIte, aresults, aresult, hp0, T, textsL, b2, str_eq, ca, cb, ha, e_push, e_turn] at hx; (try (rw [guardL_if] at hx; split at hx <;> rename_i hc)))); all_goals (subst hx; first | (refine ⟨_, rfl, fun ht => ?_, fun ht => ?_⟩ <;> (try simp only [bbs] at ht)) | (refine ⟨_, rfl, ?_⟩; (try simp only [tupOf])))) | refine wSkip ?_ | (refine wExit ?_; simp only [thenQ, blockQ, reduceIte, Nat.reduceEqDiff]) | refine wSeq ?_ | refine wBlock ?_)
      all_goals try (exfalso; (try simp only [bbs] at *); first | omega | exact absurd trivial (by assumption))
      all_goals first | exact ev_leaf (by first | exact dN | exact dB _ | exact dE | exact dO _) (by first | exact dN | exact dB _ | exact dE | exact dO _) rfl (fun z hz => by first | (cases hz; rfl) | cases hz)
    | some db =>
      repeat' (first | ((first | refine wSeqr ?_ | refine wIf ?_ | refine wReg ?_ | (refine wRet ?_; (try simp only [thenQ, blockQ]); refine ends_by ?_)); intro xx hx; have hc := trivial; (repeat' (simp only [hc, Nat.reduceBEq, go_sem, Nat.reduceAdd, Nat.reduceMul, Nat.reduceSub, Nat.reduceEqDiff, Nat.reduceLT, Nat.reduceLeDiff, Int.reduceEq, Int.reduceLT, Int.reduceLE, reduceIte, aresults, aresult, hp0, T, textsL, b2, str_eq, ca, cb, ha, e_push, e_turn] at hx; (try (rw [guardL_if] at hx; split at hx <;> rename_i hc)))); all_goals (subst hx; first | (refine ⟨_, rfl, fun ht => ?_, fun ht => ?_⟩ <;> (try simp only [bbs] at ht)) | (refine ⟨_, rfl, ?_⟩; (try simp only [tupOf])))) | refine wSkip ?_ | (refine wExit ?_; simp only [thenQ, blockQ, reduceIte, Nat.reduceEqDiff]) | refine wSeq ?_ | refine wBlock ?_)
      all_goals try (exfalso; (try simp only [bbs] at *); first | omega | exact absurd trivial (by assumption))
      all_goals first | exact ev_leaf (by first | exact dN | exact dB _ | exact dE | exact dO _) (by first | exact dN | exact dB _ | exact dE | exact dO _) rfl (fun z hz => by first | (cases hz; rfl) | cases hz)
  by_cases n_turn : w.data.toList = [116, 117, 114, 110]
  · have hw := n_turn
    have e_push : (w.data.toList = [112, 117, 115, 104]) = False := eq_false (by rw [hw]; decide)
    have e_turn : (w.data.toList = [116, 117, 114, 110]) = True := eq_true hw
    rw [show evS ([w, a, b]) = evK ([w, a, b]) by simp only [evS, ha, e_push, e_turn, if_false]]
    rw [hna] at ha
    repeat' (first | ((first | refine wSeqr ?_ | refine wIf ?_ | refine wReg ?_ | (refine wRet ?_; (try simp only [thenQ, blockQ]); refine ends_by ?_)); intro xx hx; have hc := trivial; (repeat' (simp only [hc, Nat.reduceBEq, go_sem, Nat.reduceAdd, Nat.reduceMul, Nat.reduceSub, Nat.reduceEqDiff, Nat.reduceLT, Nat.reduceLeDiff, Int.reduceEq, Int.reduceLT, Int.reduceLE, reduceIte, aresults, aresult, hp0, T, textsL, b2, str_eq, ca, ha, ck, e_push, e_turn] at hx; (try (rw [guardL_if] at hx; split at hx <;> rename_i hc)))); all_goals (subst hx; first | (refine ⟨_, rfl, fun ht => ?_, fun ht => ?_⟩ <;> (try simp only [bbs] at ht)) | (refine ⟨_, rfl, ?_⟩; (try simp only [tupOf])))) | refine wSkip ?_ | (refine wExit ?_; simp only [thenQ, blockQ, reduceIte, Nat.reduceEqDiff]) | refine wSeq ?_ | refine wBlock ?_)
    all_goals try (exfalso; (try simp only [bbs] at *); first | omega | exact absurd trivial (by assumption))
    exact ev_leaf (dB _) (dB _) rfl he
  have e_push : (w.data.toList = [112, 117, 115, 104]) = False := eq_false n_push
  have e_turn : (w.data.toList = [116, 117, 114, 110]) = False := eq_false n_turn
  rw [show evS ([w, a, b]) = evK ([w, a, b]) by simp only [evS, ha, e_push, e_turn, if_false]]
  rw [hna] at ha
  repeat' (first | ((first | refine wSeqr ?_ | refine wIf ?_ | refine wReg ?_ | (refine wRet ?_; (try simp only [thenQ, blockQ]); refine ends_by ?_)); intro xx hx; have hc := trivial; (repeat' (simp only [hc, Nat.reduceBEq, go_sem, Nat.reduceAdd, Nat.reduceMul, Nat.reduceSub, Nat.reduceEqDiff, Nat.reduceLT, Nat.reduceLeDiff, Int.reduceEq, Int.reduceLT, Int.reduceLE, reduceIte, aresults, aresult, hp0, T, textsL, b2, str_eq, ca, ha, ck, e_push, e_turn] at hx; (try (rw [guardL_if] at hx; split at hx <;> rename_i hc)))); all_goals (subst hx; first | (refine ⟨_, rfl, fun ht => ?_, fun ht => ?_⟩ <;> (try simp only [bbs] at ht)) | (refine ⟨_, rfl, ?_⟩; (try simp only [tupOf])))) | refine wSkip ?_ | (refine wExit ?_; simp only [thenQ, blockQ, reduceIte, Nat.reduceEqDiff]) | refine wSeq ?_ | refine wBlock ?_)
  all_goals try (exfalso; (try simp only [bbs] at *); first | omega | exact absurd trivial (by assumption))
  exact ev_leaf (dB _) (dB _) rfl he
theorem p_l14Event4 (w a b c : ByteArray) (hz : ∀ z ∈ ([w, a, b, c] : List ByteArray), z.size ≤ 1048576) : ∃ v cl, EvQ (evS ([w, a, b, c])) v ∧ pure Tryz.prog cfg0 29 Tryz.f29 [textsL ([w, a, b, c])] = some (v, cl) := by
  refine pure_ex (rs := [.cell 2 26, .tmp 3]) rfl rfl ?_
  have hp0 : ∀ b, cfg0.pol 29 b = 0 := fun b => rfl
  have T : textsL ([w, a, b, c]) = .lst false (([w, a, b, c] : List ByteArray).map fun s => [AV.v (.string s)]) := rfl
  have ca := c_sl14Number a
  have hna : num a = numOf 7 a.data.toList := rfl
  obtain ⟨e, he, ck⟩ := c_l14Key ([w, a, b, c]) (by simp) hz
  rw [T] at ck
  simp only [List.map_cons, List.map_nil] at ck
  by_cases ha : num a < 0
  · rw [show evS ([w, a, b, c]) = none by simp only [evS, ha, if_true]]
    rw [hna] at ha
    repeat' (first | ((first | refine wSeqr ?_ | refine wIf ?_ | refine wReg ?_ | (refine wRet ?_; (try simp only [thenQ, blockQ]); refine ends_by ?_)); intro xx hx; have hc := trivial; (repeat' (simp only [hc, Nat.reduceBEq, go_sem, Nat.reduceAdd, Nat.reduceMul, Nat.reduceSub, Nat.reduceEqDiff, Nat.reduceLT, Nat.reduceLeDiff, Int.reduceEq, Int.reduceLT, Int.reduceLE, reduceIte, aresults, aresult, hp0, T, textsL, b2, str_eq, ca, ha] at hx; (try (rw [guardL_if] at hx; split at hx <;> rename_i hc)))); all_goals (subst hx; first | (refine ⟨_, rfl, fun ht => ?_, fun ht => ?_⟩ <;> (try simp only [bbs] at ht)) | (refine ⟨_, rfl, ?_⟩; (try simp only [tupOf])))) | refine wSkip ?_ | (refine wExit ?_; simp only [thenQ, blockQ, reduceIte, Nat.reduceEqDiff]) | refine wSeq ?_ | refine wBlock ?_)
    all_goals try (exfalso; (try simp only [bbs] at *); first | omega | exact absurd trivial (by assumption))
    all_goals first | exact ev_leaf (by first | exact dN | exact dB _ | exact dE | exact dO _) (by first | exact dN | exact dB _ | exact dE | exact dO _) rfl (fun z hz => by first | (cases hz; rfl) | cases hz)
  by_cases n_push : w.data.toList = [112, 117, 115, 104]
  · have hw := n_push
    have e_push : (w.data.toList = [112, 117, 115, 104]) = True := eq_true hw
    have e_turn : (w.data.toList = [116, 117, 114, 110]) = False := eq_false (by rw [hw]; decide)
    rw [show evS ([w, a, b, c]) = evK ([w, a, b, c]) by simp only [evS, ha, e_push, e_turn, if_false]]
    rw [hna] at ha
    repeat' (first | ((first | refine wSeqr ?_ | refine wIf ?_ | refine wReg ?_ | (refine wRet ?_; (try simp only [thenQ, blockQ]); refine ends_by ?_)); intro xx hx; have hc := trivial; (repeat' (simp only [hc, Nat.reduceBEq, go_sem, Nat.reduceAdd, Nat.reduceMul, Nat.reduceSub, Nat.reduceEqDiff, Nat.reduceLT, Nat.reduceLeDiff, Int.reduceEq, Int.reduceLT, Int.reduceLE, reduceIte, aresults, aresult, hp0, T, textsL, b2, str_eq, ca, ha, ck, e_push, e_turn] at hx; (try (rw [guardL_if] at hx; split at hx <;> rename_i hc)))); all_goals (subst hx; first | (refine ⟨_, rfl, fun ht => ?_, fun ht => ?_⟩ <;> (try simp only [bbs] at ht)) | (refine ⟨_, rfl, ?_⟩; (try simp only [tupOf])))) | refine wSkip ?_ | (refine wExit ?_; simp only [thenQ, blockQ, reduceIte, Nat.reduceEqDiff]) | refine wSeq ?_ | refine wBlock ?_)
    all_goals try (exfalso; (try simp only [bbs] at *); first | omega | exact absurd trivial (by assumption))
    exact ev_leaf (dB _) (dB _) rfl he
  by_cases n_turn : w.data.toList = [116, 117, 114, 110]
  · have hw := n_turn
    have e_push : (w.data.toList = [112, 117, 115, 104]) = False := eq_false (by rw [hw]; decide)
    have e_turn : (w.data.toList = [116, 117, 114, 110]) = True := eq_true hw
    have cb := c_sl14Number b
    have cc := c_sl14Number c
    rw [show evS ([w, a, b, c]) = (if 0 ≤ num b ∧ num b ≤ 255 ∧ 0 ≤ num c then some ⟨5, 0, num a, num c, [num b], 0, ⟨0, []⟩⟩ else none) by simp only [evS, ha, e_push, e_turn, if_false, if_true]]
    unfold num at *
    generalize numOf 7 b.data.toList = nb at *
    generalize numOf 7 c.data.toList = nc at *
    by_cases hb : inB nb 0 255 = true
    · have hb2 := inB_t.1 hb
      have hw := wrap_b hb2
      by_cases hc0 : nc < 0
      · rw [if_neg (by omega)]
        repeat' (first | ((first | refine wSeqr ?_ | refine wIf ?_ | refine wReg ?_ | (refine wRet ?_; (try simp only [thenQ, blockQ]); refine ends_by ?_)); intro xx hx; have hc := trivial; (repeat' (simp only [hc, Nat.reduceBEq, go_sem, Nat.reduceAdd, Nat.reduceMul, Nat.reduceSub, Nat.reduceEqDiff, Nat.reduceLT, Nat.reduceLeDiff, Int.reduceEq, Int.reduceLT, Int.reduceLE, reduceIte, aresults, aresult, hp0, T, textsL, b2, str_eq, ca, cb, cc, ha, hb, hc0, c_sl1In, e_push, e_turn] at hx; (try (rw [guardL_if] at hx; split at hx <;> rename_i hc)))); all_goals (subst hx; first | (refine ⟨_, rfl, fun ht => ?_, fun ht => ?_⟩ <;> (try simp only [bbs] at ht)) | (refine ⟨_, rfl, ?_⟩; (try simp only [tupOf])))) | refine wSkip ?_ | (refine wExit ?_; simp only [thenQ, blockQ, reduceIte, Nat.reduceEqDiff]) | refine wSeq ?_ | refine wBlock ?_)
        all_goals try (exfalso; (try simp only [bbs] at *); first | omega | exact absurd trivial (by assumption))
        all_goals first | exact ev_leaf (by first | exact dN | exact dB _ | exact dE | exact dO _) (by first | exact dN | exact dB _ | exact dE | exact dO _) rfl (fun z hz => by first | (cases hz; rfl) | cases hz)
      · rw [if_pos (by omega)]
        repeat' (first | ((first | refine wSeqr ?_ | refine wIf ?_ | refine wReg ?_ | (refine wRet ?_; (try simp only [thenQ, blockQ]); refine ends_by ?_)); intro xx hx; have hc := trivial; (repeat' (simp only [hc, Nat.reduceBEq, go_sem, Nat.reduceAdd, Nat.reduceMul, Nat.reduceSub, Nat.reduceEqDiff, Nat.reduceLT, Nat.reduceLeDiff, Int.reduceEq, Int.reduceLT, Int.reduceLE, reduceIte, aresults, aresult, hp0, T, textsL, b2, str_eq, ca, cb, cc, ha, hb, hc0, c_sl1In, hw, aconv_int u2 u5, e_push, e_turn] at hx; (try (rw [guardL_if] at hx; split at hx <;> rename_i hc)))); all_goals (subst hx; first | (refine ⟨_, rfl, fun ht => ?_, fun ht => ?_⟩ <;> (try simp only [bbs] at ht)) | (refine ⟨_, rfl, ?_⟩; (try simp only [tupOf])))) | refine wSkip ?_ | (refine wExit ?_; simp only [thenQ, blockQ, reduceIte, Nat.reduceEqDiff]) | refine wSeq ?_ | refine wBlock ?_)
        all_goals try (exfalso; (try simp only [bbs] at *); first | omega | exact absurd trivial (by assumption))
        all_goals first | exact ev_leaf (by first | exact dN | exact dB _ | exact dE | exact dO _) (by first | exact dN | exact dB _ | exact dE | exact dO _) rfl (fun z hz => by first | (cases hz; rfl) | cases hz)
    · have hb2 : ¬ (0 ≤ nb ∧ nb ≤ 255) := fun h => hb (inB_t.2 h)
      have hb3 : inB nb 0 255 = false := by simpa using hb
      rw [if_neg (fun h => hb2 ⟨h.1, h.2.1⟩)]
      repeat' (first | ((first | refine wSeqr ?_ | refine wIf ?_ | refine wReg ?_ | (refine wRet ?_; (try simp only [thenQ, blockQ]); refine ends_by ?_)); intro xx hx; have hc := trivial; (repeat' (simp only [hc, Nat.reduceBEq, go_sem, Nat.reduceAdd, Nat.reduceMul, Nat.reduceSub, Nat.reduceEqDiff, Nat.reduceLT, Nat.reduceLeDiff, Int.reduceEq, Int.reduceLT, Int.reduceLE, reduceIte, aresults, aresult, hp0, T, textsL, b2, str_eq, ca, cb, cc, ha, hb3, c_sl1In, e_push, e_turn] at hx; (try (rw [guardL_if] at hx; split at hx <;> rename_i hc)))); all_goals (subst hx; first | (refine ⟨_, rfl, fun ht => ?_, fun ht => ?_⟩ <;> (try simp only [bbs] at ht)) | (refine ⟨_, rfl, ?_⟩; (try simp only [tupOf])))) | refine wSkip ?_ | (refine wExit ?_; simp only [thenQ, blockQ, reduceIte, Nat.reduceEqDiff]) | refine wSeq ?_ | refine wBlock ?_)
      all_goals try (exfalso; (try simp only [bbs] at *); first | omega | exact absurd trivial (by assumption))
      all_goals first | exact ev_leaf (by first | exact dN | exact dB _ | exact dE | exact dO _) (by first | exact dN | exact dB _ | exact dE | exact dO _) rfl (fun z hz => by first | (cases hz; rfl) | cases hz)
  have e_push : (w.data.toList = [112, 117, 115, 104]) = False := eq_false n_push
  have e_turn : (w.data.toList = [116, 117, 114, 110]) = False := eq_false n_turn
  rw [show evS ([w, a, b, c]) = evK ([w, a, b, c]) by simp only [evS, ha, e_push, e_turn, if_false]]
  rw [hna] at ha
  repeat' (first | ((first | refine wSeqr ?_ | refine wIf ?_ | refine wReg ?_ | (refine wRet ?_; (try simp only [thenQ, blockQ]); refine ends_by ?_)); intro xx hx; have hc := trivial; (repeat' (simp only [hc, Nat.reduceBEq, go_sem, Nat.reduceAdd, Nat.reduceMul, Nat.reduceSub, Nat.reduceEqDiff, Nat.reduceLT, Nat.reduceLeDiff, Int.reduceEq, Int.reduceLT, Int.reduceLE, reduceIte, aresults, aresult, hp0, T, textsL, b2, str_eq, ca, ha, ck, e_push, e_turn] at hx; (try (rw [guardL_if] at hx; split at hx <;> rename_i hc)))); all_goals (subst hx; first | (refine ⟨_, rfl, fun ht => ?_, fun ht => ?_⟩ <;> (try simp only [bbs] at ht)) | (refine ⟨_, rfl, ?_⟩; (try simp only [tupOf])))) | refine wSkip ?_ | (refine wExit ?_; simp only [thenQ, blockQ, reduceIte, Nat.reduceEqDiff]) | refine wSeq ?_ | refine wBlock ?_)
  all_goals try (exfalso; (try simp only [bbs] at *); first | omega | exact absurd trivial (by assumption))
  exact ev_leaf (dB _) (dB _) rfl he
theorem p_l14Event5 (w a b c d : ByteArray) (r : List ByteArray) (hz : ∀ z ∈ (w :: a :: b :: c :: d :: r : List ByteArray), z.size ≤ 1048576) : ∃ v cl, EvQ (evS (w :: a :: b :: c :: d :: r)) v ∧ pure Tryz.prog cfg0 29 Tryz.f29 [textsL (w :: a :: b :: c :: d :: r)] = some (v, cl) := by
  refine pure_ex (rs := [.cell 2 26, .tmp 3]) rfl rfl ?_
  have hp0 : ∀ b, cfg0.pol 29 b = 0 := fun b => rfl
  have T : textsL (w :: a :: b :: c :: d :: r) = .lst false ((w :: a :: b :: c :: d :: r : List ByteArray).map fun s => [AV.v (.string s)]) := rfl
  have l4 : (((r.length + 1 + 1 + 1 + 1 + 1 : Nat) : Int) < 2) = False := eq_false (by omega)
  have l5 : (((r.length + 1 + 1 + 1 + 1 + 1 : Nat) : Int) ≤ 3) = False := eq_false (by omega)
  have l6 : (((r.length + 1 + 1 + 1 + 1 + 1 : Nat) : Int) = 4) = False := eq_false (by omega)
  have l7 : (((r.length + 1 + 1 + 1 + 1 + 1 : Nat) : Int) = 2) = False := eq_false (by omega)
  have ca := c_sl14Number a
  have hna : num a = numOf 7 a.data.toList := rfl
  have hs : evS (w :: a :: b :: c :: d :: r) = none := rfl
  have hk : evK (w :: a :: b :: c :: d :: r) = none := rfl
  obtain ⟨e, he, ck⟩ := c_l14Key (w :: a :: b :: c :: d :: r) (by simp) hz
  rw [T] at ck
  simp only [List.map_cons, List.map_nil] at ck
  by_cases ha : num a < 0
  · rw [show evS (w :: a :: b :: c :: d :: r) = none by rfl]
    rw [hna] at ha
    repeat' (first | ((first | refine wSeqr ?_ | refine wIf ?_ | refine wReg ?_ | (refine wRet ?_; (try simp only [thenQ, blockQ]); refine ends_by ?_)); intro xx hx; have hc := trivial; (repeat' (simp only [hc, Nat.reduceBEq, go_sem, Nat.reduceAdd, Nat.reduceMul, Nat.reduceSub, Nat.reduceEqDiff, Nat.reduceLT, Nat.reduceLeDiff, Int.reduceEq, Int.reduceLT, Int.reduceLE, reduceIte, aresults, aresult, hp0, T, textsL, b2, str_eq, ca, ha, l4, l5, l6, l7, List.length_map] at hx; (try (rw [guardL_if] at hx; split at hx <;> rename_i hc)))); all_goals (subst hx; first | (refine ⟨_, rfl, fun ht => ?_, fun ht => ?_⟩ <;> (try simp only [bbs] at ht)) | (refine ⟨_, rfl, ?_⟩; (try simp only [tupOf])))) | refine wSkip ?_ | (refine wExit ?_; simp only [thenQ, blockQ, reduceIte, Nat.reduceEqDiff]) | refine wSeq ?_ | refine wBlock ?_)
    all_goals try (exfalso; (try simp only [bbs] at *); first | omega | exact absurd trivial (by assumption))
    all_goals first | exact ev_leaf (by first | exact dN | exact dB _ | exact dE | exact dO _) (by first | exact dN | exact dB _ | exact dE | exact dO _) rfl (fun z hz => by first | (cases hz; rfl) | cases hz)
  by_cases n_push : w.data.toList = [112, 117, 115, 104]
  · have hw := n_push
    have e_push : (w.data.toList = [112, 117, 115, 104]) = True := eq_true hw
    have e_turn : (w.data.toList = [116, 117, 114, 110]) = False := eq_false (by rw [hw]; decide)
    rw [hs, ← hk]
    rw [hna] at ha
    repeat' (first | ((first | refine wSeqr ?_ | refine wIf ?_ | refine wReg ?_ | (refine wRet ?_; (try simp only [thenQ, blockQ]); refine ends_by ?_)); intro xx hx; have hc := trivial; (repeat' (simp only [hc, Nat.reduceBEq, go_sem, Nat.reduceAdd, Nat.reduceMul, Nat.reduceSub, Nat.reduceEqDiff, Nat.reduceLT, Nat.reduceLeDiff, Int.reduceEq, Int.reduceLT, Int.reduceLE, reduceIte, aresults, aresult, hp0, T, textsL, b2, str_eq, ca, ha, ck, e_push, e_turn, l4, l5, l6, l7, List.length_map] at hx; (try (rw [guardL_if] at hx; split at hx <;> rename_i hc)))); all_goals (subst hx; first | (refine ⟨_, rfl, fun ht => ?_, fun ht => ?_⟩ <;> (try simp only [bbs] at ht)) | (refine ⟨_, rfl, ?_⟩; (try simp only [tupOf])))) | refine wSkip ?_ | (refine wExit ?_; simp only [thenQ, blockQ, reduceIte, Nat.reduceEqDiff]) | refine wSeq ?_ | refine wBlock ?_)
    all_goals try (exfalso; (try simp only [bbs] at *); first | omega | exact absurd trivial (by assumption))
    exact ev_leaf (dB _) (dB _) rfl he
  by_cases n_turn : w.data.toList = [116, 117, 114, 110]
  · have hw := n_turn
    have e_push : (w.data.toList = [112, 117, 115, 104]) = False := eq_false (by rw [hw]; decide)
    have e_turn : (w.data.toList = [116, 117, 114, 110]) = True := eq_true hw
    rw [hs, ← hk]
    rw [hna] at ha
    repeat' (first | ((first | refine wSeqr ?_ | refine wIf ?_ | refine wReg ?_ | (refine wRet ?_; (try simp only [thenQ, blockQ]); refine ends_by ?_)); intro xx hx; have hc := trivial; (repeat' (simp only [hc, Nat.reduceBEq, go_sem, Nat.reduceAdd, Nat.reduceMul, Nat.reduceSub, Nat.reduceEqDiff, Nat.reduceLT, Nat.reduceLeDiff, Int.reduceEq, Int.reduceLT, Int.reduceLE, reduceIte, aresults, aresult, hp0, T, textsL, b2, str_eq, ca, ha, ck, e_push, e_turn, l4, l5, l6, l7, List.length_map] at hx; (try (rw [guardL_if] at hx; split at hx <;> rename_i hc)))); all_goals (subst hx; first | (refine ⟨_, rfl, fun ht => ?_, fun ht => ?_⟩ <;> (try simp only [bbs] at ht)) | (refine ⟨_, rfl, ?_⟩; (try simp only [tupOf])))) | refine wSkip ?_ | (refine wExit ?_; simp only [thenQ, blockQ, reduceIte, Nat.reduceEqDiff]) | refine wSeq ?_ | refine wBlock ?_)
    all_goals try (exfalso; (try simp only [bbs] at *); first | omega | exact absurd trivial (by assumption))
    exact ev_leaf (dB _) (dB _) rfl he
  have e_push : (w.data.toList = [112, 117, 115, 104]) = False := eq_false n_push
  have e_turn : (w.data.toList = [116, 117, 114, 110]) = False := eq_false n_turn
  rw [hs, ← hk]
  rw [hna] at ha
  repeat' (first | ((first | refine wSeqr ?_ | refine wIf ?_ | refine wReg ?_ | (refine wRet ?_; (try simp only [thenQ, blockQ]); refine ends_by ?_)); intro xx hx; have hc := trivial; (repeat' (simp only [hc, Nat.reduceBEq, go_sem, Nat.reduceAdd, Nat.reduceMul, Nat.reduceSub, Nat.reduceEqDiff, Nat.reduceLT, Nat.reduceLeDiff, Int.reduceEq, Int.reduceLT, Int.reduceLE, reduceIte, aresults, aresult, hp0, T, textsL, b2, str_eq, ca, ha, ck, e_push, e_turn, l4, l5, l6, l7, List.length_map] at hx; (try (rw [guardL_if] at hx; split at hx <;> rename_i hc)))); all_goals (subst hx; first | (refine ⟨_, rfl, fun ht => ?_, fun ht => ?_⟩ <;> (try simp only [bbs] at ht)) | (refine ⟨_, rfl, ?_⟩; (try simp only [tupOf])))) | refine wSkip ?_ | (refine wExit ?_; simp only [thenQ, blockQ, reduceIte, Nat.reduceEqDiff]) | refine wSeq ?_ | refine wBlock ?_)
  all_goals try (exfalso; (try simp only [bbs] at *); first | omega | exact absurd trivial (by assumption))
  exact ev_leaf (dB _) (dB _) rfl he
theorem c_l14Event (l : List ByteArray) (hz : ∀ z ∈ l, z.size ≤ 1048576) : ∃ e : EventM, (∀ x, evS l = some x → e = x) ∧ ∀ H, call Tryz.prog cfg0 0 29 [textsL l] H = some (.tup [.agg [.v (.int .i64 e.Kind), .v (.int .i64 e.Node), .v (.int .i64 e.At), .v (.int .i64 e.Mask), bytesL e.Data, .v (.int .i64 e.Op), .v (.int .i64 e.Key.Id), bytesL e.Key.Bytes], .v (.bool (evS l).isSome)], H) := by
  have key : ∃ v cl, EvQ (evS l) v ∧ pure Tryz.prog cfg0 29 Tryz.f29 [textsL l] = some (v, cl) := by
    match l, hz with
    | [], hz => exact p_l14Event0 hz
    | [w], hz => exact p_l14Event1 w hz
    | [w, a], hz => exact p_l14Event2 w a hz
    | [w, a, b], hz => exact p_l14Event3 w a b hz
    | [w, a, b, c], hz => exact p_l14Event4 w a b c hz
    | w :: a :: b :: c :: d :: r, hz => exact p_l14Event5 w a b c d r hz
  obtain ⟨v, cl, ⟨e, rfl, he⟩, hp⟩ := key
  exact ⟨e, he, fun H => call_fz Tryz.func29 rfl ok_l14Event rfl (by simp only [fz_cons, fz_nil, fz_texts, and_self]) hp H⟩
end
end Go.Proofs.YtakbbccdnkigpaaGreatDoor
namespace Go.Proofs.YtakbbccdnkigpaaGreatDoor
open Go Go.RowKit Go.Proofs.YtakbbccdnkigpaaGreatDoor.Eng
set_option linter.unusedSimpArgs false
set_option linter.unusedVariables false
set_option maxRecDepth 100000
set_option maxHeartbeats 2000000
noncomputable section
theorem wUnroll {P : Program} {cfg : Cfg} {fid : Nat} {c : Code} {s : St} {Q : AX → St → Prop} (h : Wp P cfg fid c s (thenQ (fun s' => Wp P cfg fid (.loop c) s' Q) Q)) : Wp P cfg fid (.loop c) s Q := by
  obtain ⟨x, s', h1, h2⟩ := h
  cases x with
  | normal =>
    obtain ⟨x2, s2, h3, h4⟩ := h2
    exact ⟨x2, s2, by rw [code_loop, h1]; exact h3, h4⟩
  | exit id => exact ⟨_, _, by rw [code_loop, h1]; rfl, h2⟩
  | ret => exact ⟨_, _, by rw [code_loop, h1]; rfl, h2⟩
theorem ok_form_tick : fnOk Tryz.prog cfg0 72 Tryz.f72 = true := by kernel_rfl
theorem p_form_tick (w : ByteArray) (hw : w.data.toList = [116, 105, 99, 107]) : pure Tryz.prog cfg0 72 Tryz.f72 [.v (.string w)] = some (.tup [.v (.int .i64 1), .v (.int .i64 0), .v (.string ⟨#[78]⟩)], true) := by
  refine pure_wp (rs := [.tmp 2, .tmp 3, .tmp 4]) rfl rfl ?_
  have hp0 : ∀ b, cfg0.pol 72 b = 0 := fun b => rfl
  have e_tick : (w.data.toList = [116, 105, 99, 107]) = True := eq_true hw
  have e_stop : (w.data.toList = [115, 116, 111, 112]) = False := eq_false (by rw [hw]; decide)
  have e_come : (w.data.toList = [99, 111, 109, 101]) = False := eq_false (by rw [hw]; decide)
  have e_close : (w.data.toList = [108, 111, 115, 101]) = False := eq_false (by rw [hw]; decide)
  have e_copy : (w.data.toList = [99, 111, 112, 121]) = False := eq_false (by rw [hw]; decide)
  have e_turn : (w.data.toList = [116, 117, 114, 110]) = False := eq_false (by rw [hw]; decide)
  have e_push : (w.data.toList = [112, 117, 115, 104]) = False := eq_false (by rw [hw]; decide)
  have e_install : (w.data.toList = [105, 110, 115, 116, 97, 108, 108]) = False := eq_false (by rw [hw]; decide)
  have e_use : (w.data.toList = [117, 115, 101]) = False := eq_false (by rw [hw]; decide)
  have e_remove : (w.data.toList = [114, 101, 109, 111, 118, 101]) = False := eq_false (by rw [hw]; decide)
  repeat' (first | ((first | refine wSeqr ?_ | refine wIf ?_ | refine wReg ?_ | (refine wRet ?_; (try simp only [thenQ, blockQ]); refine ends_by ?_)); intro xx hx; have hc := trivial; (repeat' (simp only [hc, Nat.reduceBEq, go_sem, Nat.reduceAdd, Nat.reduceMul, Nat.reduceSub, Nat.reduceEqDiff, Nat.reduceLT, Nat.reduceLeDiff, Int.reduceEq, Int.reduceLT, Int.reduceLE, reduceIte, aresults, aresult, hp0, str_eq, e_tick, e_stop, e_come, e_close, e_copy, e_turn, e_push, e_install, e_use, e_remove, decide_true, decide_false, Bool.not_true, Bool.not_false] at hx; (try (rw [guardL_if] at hx; split at hx <;> rename_i hc)))); all_goals (subst hx; first | (refine ⟨_, rfl, fun ht => ?_, fun ht => ?_⟩ <;> (try simp only [bbs] at ht)) | (refine ⟨_, rfl, ?_⟩; (try simp only [tupOf])))) | refine wSkip ?_ | (refine wExit ?_; simp only [thenQ, blockQ, reduceIte, Nat.reduceEqDiff]) | refine wSeq ?_ | refine wBlock ?_)
  all_goals try (exfalso; (try simp only [bbs] at *); first | omega | exact absurd trivial (by assumption))
  all_goals exact ⟨rfl, rfl⟩
theorem c_form_tick (w : ByteArray) (hw : w.data.toList = [116, 105, 99, 107]) : ∀ H, call Tryz.prog cfg0 0 72 [.v (.string w)] H = some (.tup [.v (.int .i64 1), .v (.int .i64 0), .v (.string ⟨#[78]⟩)], H) :=
  call_fz Tryz.func72 rfl ok_form_tick rfl (by simp only [fz_cons, fz_nil, go_sem, and_self]) (p_form_tick w hw)

theorem ok_form_stop : fnOk Tryz.prog cfg0 72 Tryz.f72 = true := by kernel_rfl
theorem p_form_stop (w : ByteArray) (hw : w.data.toList = [115, 116, 111, 112]) : pure Tryz.prog cfg0 72 Tryz.f72 [.v (.string w)] = some (.tup [.v (.int .i64 8), .v (.int .i64 0), .v (.string ⟨#[78]⟩)], true) := by
  refine pure_wp (rs := [.tmp 2, .tmp 3, .tmp 4]) rfl rfl ?_
  have hp0 : ∀ b, cfg0.pol 72 b = 0 := fun b => rfl
  have e_tick : (w.data.toList = [116, 105, 99, 107]) = False := eq_false (by rw [hw]; decide)
  have e_stop : (w.data.toList = [115, 116, 111, 112]) = True := eq_true hw
  have e_come : (w.data.toList = [99, 111, 109, 101]) = False := eq_false (by rw [hw]; decide)
  have e_close : (w.data.toList = [108, 111, 115, 101]) = False := eq_false (by rw [hw]; decide)
  have e_copy : (w.data.toList = [99, 111, 112, 121]) = False := eq_false (by rw [hw]; decide)
  have e_turn : (w.data.toList = [116, 117, 114, 110]) = False := eq_false (by rw [hw]; decide)
  have e_push : (w.data.toList = [112, 117, 115, 104]) = False := eq_false (by rw [hw]; decide)
  have e_install : (w.data.toList = [105, 110, 115, 116, 97, 108, 108]) = False := eq_false (by rw [hw]; decide)
  have e_use : (w.data.toList = [117, 115, 101]) = False := eq_false (by rw [hw]; decide)
  have e_remove : (w.data.toList = [114, 101, 109, 111, 118, 101]) = False := eq_false (by rw [hw]; decide)
  repeat' (first | ((first | refine wSeqr ?_ | refine wIf ?_ | refine wReg ?_ | (refine wRet ?_; (try simp only [thenQ, blockQ]); refine ends_by ?_)); intro xx hx; have hc := trivial; (repeat' (simp only [hc, Nat.reduceBEq, go_sem, Nat.reduceAdd, Nat.reduceMul, Nat.reduceSub, Nat.reduceEqDiff, Nat.reduceLT, Nat.reduceLeDiff, Int.reduceEq, Int.reduceLT, Int.reduceLE, reduceIte, aresults, aresult, hp0, str_eq, e_tick, e_stop, e_come, e_close, e_copy, e_turn, e_push, e_install, e_use, e_remove, decide_true, decide_false, Bool.not_true, Bool.not_false] at hx; (try (rw [guardL_if] at hx; split at hx <;> rename_i hc)))); all_goals (subst hx; first | (refine ⟨_, rfl, fun ht => ?_, fun ht => ?_⟩ <;> (try simp only [bbs] at ht)) | (refine ⟨_, rfl, ?_⟩; (try simp only [tupOf])))) | refine wSkip ?_ | (refine wExit ?_; simp only [thenQ, blockQ, reduceIte, Nat.reduceEqDiff]) | refine wSeq ?_ | refine wBlock ?_)
  all_goals try (exfalso; (try simp only [bbs] at *); first | omega | exact absurd trivial (by assumption))
  all_goals exact ⟨rfl, rfl⟩
theorem c_form_stop (w : ByteArray) (hw : w.data.toList = [115, 116, 111, 112]) : ∀ H, call Tryz.prog cfg0 0 72 [.v (.string w)] H = some (.tup [.v (.int .i64 8), .v (.int .i64 0), .v (.string ⟨#[78]⟩)], H) :=
  call_fz Tryz.func72 rfl ok_form_stop rfl (by simp only [fz_cons, fz_nil, go_sem, and_self]) (p_form_stop w hw)

theorem ok_form_come : fnOk Tryz.prog cfg0 72 Tryz.f72 = true := by kernel_rfl
theorem p_form_come (w : ByteArray) (hw : w.data.toList = [99, 111, 109, 101]) : pure Tryz.prog cfg0 72 Tryz.f72 [.v (.string w)] = some (.tup [.v (.int .i64 2), .v (.int .i64 0), .v (.string ⟨#[78]⟩)], true) := by
  refine pure_wp (rs := [.tmp 2, .tmp 3, .tmp 4]) rfl rfl ?_
  have hp0 : ∀ b, cfg0.pol 72 b = 0 := fun b => rfl
  have e_tick : (w.data.toList = [116, 105, 99, 107]) = False := eq_false (by rw [hw]; decide)
  have e_stop : (w.data.toList = [115, 116, 111, 112]) = False := eq_false (by rw [hw]; decide)
  have e_come : (w.data.toList = [99, 111, 109, 101]) = True := eq_true hw
  have e_close : (w.data.toList = [108, 111, 115, 101]) = False := eq_false (by rw [hw]; decide)
  have e_copy : (w.data.toList = [99, 111, 112, 121]) = False := eq_false (by rw [hw]; decide)
  have e_turn : (w.data.toList = [116, 117, 114, 110]) = False := eq_false (by rw [hw]; decide)
  have e_push : (w.data.toList = [112, 117, 115, 104]) = False := eq_false (by rw [hw]; decide)
  have e_install : (w.data.toList = [105, 110, 115, 116, 97, 108, 108]) = False := eq_false (by rw [hw]; decide)
  have e_use : (w.data.toList = [117, 115, 101]) = False := eq_false (by rw [hw]; decide)
  have e_remove : (w.data.toList = [114, 101, 109, 111, 118, 101]) = False := eq_false (by rw [hw]; decide)
  repeat' (first | ((first | refine wSeqr ?_ | refine wIf ?_ | refine wReg ?_ | (refine wRet ?_; (try simp only [thenQ, blockQ]); refine ends_by ?_)); intro xx hx; have hc := trivial; (repeat' (simp only [hc, Nat.reduceBEq, go_sem, Nat.reduceAdd, Nat.reduceMul, Nat.reduceSub, Nat.reduceEqDiff, Nat.reduceLT, Nat.reduceLeDiff, Int.reduceEq, Int.reduceLT, Int.reduceLE, reduceIte, aresults, aresult, hp0, str_eq, e_tick, e_stop, e_come, e_close, e_copy, e_turn, e_push, e_install, e_use, e_remove, decide_true, decide_false, Bool.not_true, Bool.not_false] at hx; (try (rw [guardL_if] at hx; split at hx <;> rename_i hc)))); all_goals (subst hx; first | (refine ⟨_, rfl, fun ht => ?_, fun ht => ?_⟩ <;> (try simp only [bbs] at ht)) | (refine ⟨_, rfl, ?_⟩; (try simp only [tupOf])))) | refine wSkip ?_ | (refine wExit ?_; simp only [thenQ, blockQ, reduceIte, Nat.reduceEqDiff]) | refine wSeq ?_ | refine wBlock ?_)
  all_goals try (exfalso; (try simp only [bbs] at *); first | omega | exact absurd trivial (by assumption))
  all_goals exact ⟨rfl, rfl⟩
theorem c_form_come (w : ByteArray) (hw : w.data.toList = [99, 111, 109, 101]) : ∀ H, call Tryz.prog cfg0 0 72 [.v (.string w)] H = some (.tup [.v (.int .i64 2), .v (.int .i64 0), .v (.string ⟨#[78]⟩)], H) :=
  call_fz Tryz.func72 rfl ok_form_come rfl (by simp only [fz_cons, fz_nil, go_sem, and_self]) (p_form_come w hw)

theorem ok_form_close : fnOk Tryz.prog cfg0 72 Tryz.f72 = true := by kernel_rfl
theorem p_form_close (w : ByteArray) (hw : w.data.toList = [108, 111, 115, 101]) : pure Tryz.prog cfg0 72 Tryz.f72 [.v (.string w)] = some (.tup [.v (.int .i64 3), .v (.int .i64 0), .v (.string ⟨#[78]⟩)], true) := by
  refine pure_wp (rs := [.tmp 2, .tmp 3, .tmp 4]) rfl rfl ?_
  have hp0 : ∀ b, cfg0.pol 72 b = 0 := fun b => rfl
  have e_tick : (w.data.toList = [116, 105, 99, 107]) = False := eq_false (by rw [hw]; decide)
  have e_stop : (w.data.toList = [115, 116, 111, 112]) = False := eq_false (by rw [hw]; decide)
  have e_come : (w.data.toList = [99, 111, 109, 101]) = False := eq_false (by rw [hw]; decide)
  have e_close : (w.data.toList = [108, 111, 115, 101]) = True := eq_true hw
  have e_copy : (w.data.toList = [99, 111, 112, 121]) = False := eq_false (by rw [hw]; decide)
  have e_turn : (w.data.toList = [116, 117, 114, 110]) = False := eq_false (by rw [hw]; decide)
  have e_push : (w.data.toList = [112, 117, 115, 104]) = False := eq_false (by rw [hw]; decide)
  have e_install : (w.data.toList = [105, 110, 115, 116, 97, 108, 108]) = False := eq_false (by rw [hw]; decide)
  have e_use : (w.data.toList = [117, 115, 101]) = False := eq_false (by rw [hw]; decide)
  have e_remove : (w.data.toList = [114, 101, 109, 111, 118, 101]) = False := eq_false (by rw [hw]; decide)
  repeat' (first | ((first | refine wSeqr ?_ | refine wIf ?_ | refine wReg ?_ | (refine wRet ?_; (try simp only [thenQ, blockQ]); refine ends_by ?_)); intro xx hx; have hc := trivial; (repeat' (simp only [hc, Nat.reduceBEq, go_sem, Nat.reduceAdd, Nat.reduceMul, Nat.reduceSub, Nat.reduceEqDiff, Nat.reduceLT, Nat.reduceLeDiff, Int.reduceEq, Int.reduceLT, Int.reduceLE, reduceIte, aresults, aresult, hp0, str_eq, e_tick, e_stop, e_come, e_close, e_copy, e_turn, e_push, e_install, e_use, e_remove, decide_true, decide_false, Bool.not_true, Bool.not_false] at hx; (try (rw [guardL_if] at hx; split at hx <;> rename_i hc)))); all_goals (subst hx; first | (refine ⟨_, rfl, fun ht => ?_, fun ht => ?_⟩ <;> (try simp only [bbs] at ht)) | (refine ⟨_, rfl, ?_⟩; (try simp only [tupOf])))) | refine wSkip ?_ | (refine wExit ?_; simp only [thenQ, blockQ, reduceIte, Nat.reduceEqDiff]) | refine wSeq ?_ | refine wBlock ?_)
  all_goals try (exfalso; (try simp only [bbs] at *); first | omega | exact absurd trivial (by assumption))
  all_goals exact ⟨rfl, rfl⟩
theorem c_form_close (w : ByteArray) (hw : w.data.toList = [108, 111, 115, 101]) : ∀ H, call Tryz.prog cfg0 0 72 [.v (.string w)] H = some (.tup [.v (.int .i64 3), .v (.int .i64 0), .v (.string ⟨#[78]⟩)], H) :=
  call_fz Tryz.func72 rfl ok_form_close rfl (by simp only [fz_cons, fz_nil, go_sem, and_self]) (p_form_close w hw)

theorem ok_form_copy : fnOk Tryz.prog cfg0 72 Tryz.f72 = true := by kernel_rfl
theorem p_form_copy (w : ByteArray) (hw : w.data.toList = [99, 111, 112, 121]) : pure Tryz.prog cfg0 72 Tryz.f72 [.v (.string w)] = some (.tup [.v (.int .i64 4), .v (.int .i64 0), .v (.string ⟨#[78]⟩)], true) := by
  refine pure_wp (rs := [.tmp 2, .tmp 3, .tmp 4]) rfl rfl ?_
  have hp0 : ∀ b, cfg0.pol 72 b = 0 := fun b => rfl
  have e_tick : (w.data.toList = [116, 105, 99, 107]) = False := eq_false (by rw [hw]; decide)
  have e_stop : (w.data.toList = [115, 116, 111, 112]) = False := eq_false (by rw [hw]; decide)
  have e_come : (w.data.toList = [99, 111, 109, 101]) = False := eq_false (by rw [hw]; decide)
  have e_close : (w.data.toList = [108, 111, 115, 101]) = False := eq_false (by rw [hw]; decide)
  have e_copy : (w.data.toList = [99, 111, 112, 121]) = True := eq_true hw
  have e_turn : (w.data.toList = [116, 117, 114, 110]) = False := eq_false (by rw [hw]; decide)
  have e_push : (w.data.toList = [112, 117, 115, 104]) = False := eq_false (by rw [hw]; decide)
  have e_install : (w.data.toList = [105, 110, 115, 116, 97, 108, 108]) = False := eq_false (by rw [hw]; decide)
  have e_use : (w.data.toList = [117, 115, 101]) = False := eq_false (by rw [hw]; decide)
  have e_remove : (w.data.toList = [114, 101, 109, 111, 118, 101]) = False := eq_false (by rw [hw]; decide)
  repeat' (first | ((first | refine wSeqr ?_ | refine wIf ?_ | refine wReg ?_ | (refine wRet ?_; (try simp only [thenQ, blockQ]); refine ends_by ?_)); intro xx hx; have hc := trivial; (repeat' (simp only [hc, Nat.reduceBEq, go_sem, Nat.reduceAdd, Nat.reduceMul, Nat.reduceSub, Nat.reduceEqDiff, Nat.reduceLT, Nat.reduceLeDiff, Int.reduceEq, Int.reduceLT, Int.reduceLE, reduceIte, aresults, aresult, hp0, str_eq, e_tick, e_stop, e_come, e_close, e_copy, e_turn, e_push, e_install, e_use, e_remove, decide_true, decide_false, Bool.not_true, Bool.not_false] at hx; (try (rw [guardL_if] at hx; split at hx <;> rename_i hc)))); all_goals (subst hx; first | (refine ⟨_, rfl, fun ht => ?_, fun ht => ?_⟩ <;> (try simp only [bbs] at ht)) | (refine ⟨_, rfl, ?_⟩; (try simp only [tupOf])))) | refine wSkip ?_ | (refine wExit ?_; simp only [thenQ, blockQ, reduceIte, Nat.reduceEqDiff]) | refine wSeq ?_ | refine wBlock ?_)
  all_goals try (exfalso; (try simp only [bbs] at *); first | omega | exact absurd trivial (by assumption))
  all_goals exact ⟨rfl, rfl⟩
theorem c_form_copy (w : ByteArray) (hw : w.data.toList = [99, 111, 112, 121]) : ∀ H, call Tryz.prog cfg0 0 72 [.v (.string w)] H = some (.tup [.v (.int .i64 4), .v (.int .i64 0), .v (.string ⟨#[78]⟩)], H) :=
  call_fz Tryz.func72 rfl ok_form_copy rfl (by simp only [fz_cons, fz_nil, go_sem, and_self]) (p_form_copy w hw)

theorem ok_form_turn : fnOk Tryz.prog cfg0 72 Tryz.f72 = true := by kernel_rfl
theorem p_form_turn (w : ByteArray) (hw : w.data.toList = [116, 117, 114, 110]) : pure Tryz.prog cfg0 72 Tryz.f72 [.v (.string w)] = some (.tup [.v (.int .i64 5), .v (.int .i64 0), .v (.string ⟨#[78, 78, 78]⟩)], true) := by
  refine pure_wp (rs := [.tmp 2, .tmp 3, .tmp 4]) rfl rfl ?_
  have hp0 : ∀ b, cfg0.pol 72 b = 0 := fun b => rfl
  have e_tick : (w.data.toList = [116, 105, 99, 107]) = False := eq_false (by rw [hw]; decide)
  have e_stop : (w.data.toList = [115, 116, 111, 112]) = False := eq_false (by rw [hw]; decide)
  have e_come : (w.data.toList = [99, 111, 109, 101]) = False := eq_false (by rw [hw]; decide)
  have e_close : (w.data.toList = [108, 111, 115, 101]) = False := eq_false (by rw [hw]; decide)
  have e_copy : (w.data.toList = [99, 111, 112, 121]) = False := eq_false (by rw [hw]; decide)
  have e_turn : (w.data.toList = [116, 117, 114, 110]) = True := eq_true hw
  have e_push : (w.data.toList = [112, 117, 115, 104]) = False := eq_false (by rw [hw]; decide)
  have e_install : (w.data.toList = [105, 110, 115, 116, 97, 108, 108]) = False := eq_false (by rw [hw]; decide)
  have e_use : (w.data.toList = [117, 115, 101]) = False := eq_false (by rw [hw]; decide)
  have e_remove : (w.data.toList = [114, 101, 109, 111, 118, 101]) = False := eq_false (by rw [hw]; decide)
  repeat' (first | ((first | refine wSeqr ?_ | refine wIf ?_ | refine wReg ?_ | (refine wRet ?_; (try simp only [thenQ, blockQ]); refine ends_by ?_)); intro xx hx; have hc := trivial; (repeat' (simp only [hc, Nat.reduceBEq, go_sem, Nat.reduceAdd, Nat.reduceMul, Nat.reduceSub, Nat.reduceEqDiff, Nat.reduceLT, Nat.reduceLeDiff, Int.reduceEq, Int.reduceLT, Int.reduceLE, reduceIte, aresults, aresult, hp0, str_eq, e_tick, e_stop, e_come, e_close, e_copy, e_turn, e_push, e_install, e_use, e_remove, decide_true, decide_false, Bool.not_true, Bool.not_false] at hx; (try (rw [guardL_if] at hx; split at hx <;> rename_i hc)))); all_goals (subst hx; first | (refine ⟨_, rfl, fun ht => ?_, fun ht => ?_⟩ <;> (try simp only [bbs] at ht)) | (refine ⟨_, rfl, ?_⟩; (try simp only [tupOf])))) | refine wSkip ?_ | (refine wExit ?_; simp only [thenQ, blockQ, reduceIte, Nat.reduceEqDiff]) | refine wSeq ?_ | refine wBlock ?_)
  all_goals try (exfalso; (try simp only [bbs] at *); first | omega | exact absurd trivial (by assumption))
  all_goals exact ⟨rfl, rfl⟩
theorem c_form_turn (w : ByteArray) (hw : w.data.toList = [116, 117, 114, 110]) : ∀ H, call Tryz.prog cfg0 0 72 [.v (.string w)] H = some (.tup [.v (.int .i64 5), .v (.int .i64 0), .v (.string ⟨#[78, 78, 78]⟩)], H) :=
  call_fz Tryz.func72 rfl ok_form_turn rfl (by simp only [fz_cons, fz_nil, go_sem, and_self]) (p_form_turn w hw)

theorem ok_form_push : fnOk Tryz.prog cfg0 72 Tryz.f72 = true := by kernel_rfl
theorem p_form_push (w : ByteArray) (hw : w.data.toList = [112, 117, 115, 104]) : pure Tryz.prog cfg0 72 Tryz.f72 [.v (.string w)] = some (.tup [.v (.int .i64 6), .v (.int .i64 0), .v (.string ⟨#[78, 72]⟩)], true) := by
  refine pure_wp (rs := [.tmp 2, .tmp 3, .tmp 4]) rfl rfl ?_
  have hp0 : ∀ b, cfg0.pol 72 b = 0 := fun b => rfl
  have e_tick : (w.data.toList = [116, 105, 99, 107]) = False := eq_false (by rw [hw]; decide)
  have e_stop : (w.data.toList = [115, 116, 111, 112]) = False := eq_false (by rw [hw]; decide)
  have e_come : (w.data.toList = [99, 111, 109, 101]) = False := eq_false (by rw [hw]; decide)
  have e_close : (w.data.toList = [108, 111, 115, 101]) = False := eq_false (by rw [hw]; decide)
  have e_copy : (w.data.toList = [99, 111, 112, 121]) = False := eq_false (by rw [hw]; decide)
  have e_turn : (w.data.toList = [116, 117, 114, 110]) = False := eq_false (by rw [hw]; decide)
  have e_push : (w.data.toList = [112, 117, 115, 104]) = True := eq_true hw
  have e_install : (w.data.toList = [105, 110, 115, 116, 97, 108, 108]) = False := eq_false (by rw [hw]; decide)
  have e_use : (w.data.toList = [117, 115, 101]) = False := eq_false (by rw [hw]; decide)
  have e_remove : (w.data.toList = [114, 101, 109, 111, 118, 101]) = False := eq_false (by rw [hw]; decide)
  repeat' (first | ((first | refine wSeqr ?_ | refine wIf ?_ | refine wReg ?_ | (refine wRet ?_; (try simp only [thenQ, blockQ]); refine ends_by ?_)); intro xx hx; have hc := trivial; (repeat' (simp only [hc, Nat.reduceBEq, go_sem, Nat.reduceAdd, Nat.reduceMul, Nat.reduceSub, Nat.reduceEqDiff, Nat.reduceLT, Nat.reduceLeDiff, Int.reduceEq, Int.reduceLT, Int.reduceLE, reduceIte, aresults, aresult, hp0, str_eq, e_tick, e_stop, e_come, e_close, e_copy, e_turn, e_push, e_install, e_use, e_remove, decide_true, decide_false, Bool.not_true, Bool.not_false] at hx; (try (rw [guardL_if] at hx; split at hx <;> rename_i hc)))); all_goals (subst hx; first | (refine ⟨_, rfl, fun ht => ?_, fun ht => ?_⟩ <;> (try simp only [bbs] at ht)) | (refine ⟨_, rfl, ?_⟩; (try simp only [tupOf])))) | refine wSkip ?_ | (refine wExit ?_; simp only [thenQ, blockQ, reduceIte, Nat.reduceEqDiff]) | refine wSeq ?_ | refine wBlock ?_)
  all_goals try (exfalso; (try simp only [bbs] at *); first | omega | exact absurd trivial (by assumption))
  all_goals exact ⟨rfl, rfl⟩
theorem c_form_push (w : ByteArray) (hw : w.data.toList = [112, 117, 115, 104]) : ∀ H, call Tryz.prog cfg0 0 72 [.v (.string w)] H = some (.tup [.v (.int .i64 6), .v (.int .i64 0), .v (.string ⟨#[78, 72]⟩)], H) :=
  call_fz Tryz.func72 rfl ok_form_push rfl (by simp only [fz_cons, fz_nil, go_sem, and_self]) (p_form_push w hw)

theorem ok_form_install : fnOk Tryz.prog cfg0 72 Tryz.f72 = true := by kernel_rfl
theorem p_form_install (w : ByteArray) (hw : w.data.toList = [105, 110, 115, 116, 97, 108, 108]) : pure Tryz.prog cfg0 72 Tryz.f72 [.v (.string w)] = some (.tup [.v (.int .i64 7), .v (.int .i64 1), .v (.string ⟨#[78, 78, 72]⟩)], true) := by
  refine pure_wp (rs := [.tmp 2, .tmp 3, .tmp 4]) rfl rfl ?_
  have hp0 : ∀ b, cfg0.pol 72 b = 0 := fun b => rfl
  have e_tick : (w.data.toList = [116, 105, 99, 107]) = False := eq_false (by rw [hw]; decide)
  have e_stop : (w.data.toList = [115, 116, 111, 112]) = False := eq_false (by rw [hw]; decide)
  have e_come : (w.data.toList = [99, 111, 109, 101]) = False := eq_false (by rw [hw]; decide)
  have e_close : (w.data.toList = [108, 111, 115, 101]) = False := eq_false (by rw [hw]; decide)
  have e_copy : (w.data.toList = [99, 111, 112, 121]) = False := eq_false (by rw [hw]; decide)
  have e_turn : (w.data.toList = [116, 117, 114, 110]) = False := eq_false (by rw [hw]; decide)
  have e_push : (w.data.toList = [112, 117, 115, 104]) = False := eq_false (by rw [hw]; decide)
  have e_install : (w.data.toList = [105, 110, 115, 116, 97, 108, 108]) = True := eq_true hw
  have e_use : (w.data.toList = [117, 115, 101]) = False := eq_false (by rw [hw]; decide)
  have e_remove : (w.data.toList = [114, 101, 109, 111, 118, 101]) = False := eq_false (by rw [hw]; decide)
  repeat' (first | ((first | refine wSeqr ?_ | refine wIf ?_ | refine wReg ?_ | (refine wRet ?_; (try simp only [thenQ, blockQ]); refine ends_by ?_)); intro xx hx; have hc := trivial; (repeat' (simp only [hc, Nat.reduceBEq, go_sem, Nat.reduceAdd, Nat.reduceMul, Nat.reduceSub, Nat.reduceEqDiff, Nat.reduceLT, Nat.reduceLeDiff, Int.reduceEq, Int.reduceLT, Int.reduceLE, reduceIte, aresults, aresult, hp0, str_eq, e_tick, e_stop, e_come, e_close, e_copy, e_turn, e_push, e_install, e_use, e_remove, decide_true, decide_false, Bool.not_true, Bool.not_false] at hx; (try (rw [guardL_if] at hx; split at hx <;> rename_i hc)))); all_goals (subst hx; first | (refine ⟨_, rfl, fun ht => ?_, fun ht => ?_⟩ <;> (try simp only [bbs] at ht)) | (refine ⟨_, rfl, ?_⟩; (try simp only [tupOf])))) | refine wSkip ?_ | (refine wExit ?_; simp only [thenQ, blockQ, reduceIte, Nat.reduceEqDiff]) | refine wSeq ?_ | refine wBlock ?_)
  all_goals try (exfalso; (try simp only [bbs] at *); first | omega | exact absurd trivial (by assumption))
  all_goals exact ⟨rfl, rfl⟩
theorem c_form_install (w : ByteArray) (hw : w.data.toList = [105, 110, 115, 116, 97, 108, 108]) : ∀ H, call Tryz.prog cfg0 0 72 [.v (.string w)] H = some (.tup [.v (.int .i64 7), .v (.int .i64 1), .v (.string ⟨#[78, 78, 72]⟩)], H) :=
  call_fz Tryz.func72 rfl ok_form_install rfl (by simp only [fz_cons, fz_nil, go_sem, and_self]) (p_form_install w hw)

theorem ok_form_use : fnOk Tryz.prog cfg0 72 Tryz.f72 = true := by kernel_rfl
theorem p_form_use (w : ByteArray) (hw : w.data.toList = [117, 115, 101]) : pure Tryz.prog cfg0 72 Tryz.f72 [.v (.string w)] = some (.tup [.v (.int .i64 7), .v (.int .i64 2), .v (.string ⟨#[78, 78]⟩)], true) := by
  refine pure_wp (rs := [.tmp 2, .tmp 3, .tmp 4]) rfl rfl ?_
  have hp0 : ∀ b, cfg0.pol 72 b = 0 := fun b => rfl
  have e_tick : (w.data.toList = [116, 105, 99, 107]) = False := eq_false (by rw [hw]; decide)
  have e_stop : (w.data.toList = [115, 116, 111, 112]) = False := eq_false (by rw [hw]; decide)
  have e_come : (w.data.toList = [99, 111, 109, 101]) = False := eq_false (by rw [hw]; decide)
  have e_close : (w.data.toList = [108, 111, 115, 101]) = False := eq_false (by rw [hw]; decide)
  have e_copy : (w.data.toList = [99, 111, 112, 121]) = False := eq_false (by rw [hw]; decide)
  have e_turn : (w.data.toList = [116, 117, 114, 110]) = False := eq_false (by rw [hw]; decide)
  have e_push : (w.data.toList = [112, 117, 115, 104]) = False := eq_false (by rw [hw]; decide)
  have e_install : (w.data.toList = [105, 110, 115, 116, 97, 108, 108]) = False := eq_false (by rw [hw]; decide)
  have e_use : (w.data.toList = [117, 115, 101]) = True := eq_true hw
  have e_remove : (w.data.toList = [114, 101, 109, 111, 118, 101]) = False := eq_false (by rw [hw]; decide)
  repeat' (first | ((first | refine wSeqr ?_ | refine wIf ?_ | refine wReg ?_ | (refine wRet ?_; (try simp only [thenQ, blockQ]); refine ends_by ?_)); intro xx hx; have hc := trivial; (repeat' (simp only [hc, Nat.reduceBEq, go_sem, Nat.reduceAdd, Nat.reduceMul, Nat.reduceSub, Nat.reduceEqDiff, Nat.reduceLT, Nat.reduceLeDiff, Int.reduceEq, Int.reduceLT, Int.reduceLE, reduceIte, aresults, aresult, hp0, str_eq, e_tick, e_stop, e_come, e_close, e_copy, e_turn, e_push, e_install, e_use, e_remove, decide_true, decide_false, Bool.not_true, Bool.not_false] at hx; (try (rw [guardL_if] at hx; split at hx <;> rename_i hc)))); all_goals (subst hx; first | (refine ⟨_, rfl, fun ht => ?_, fun ht => ?_⟩ <;> (try simp only [bbs] at ht)) | (refine ⟨_, rfl, ?_⟩; (try simp only [tupOf])))) | refine wSkip ?_ | (refine wExit ?_; simp only [thenQ, blockQ, reduceIte, Nat.reduceEqDiff]) | refine wSeq ?_ | refine wBlock ?_)
  all_goals try (exfalso; (try simp only [bbs] at *); first | omega | exact absurd trivial (by assumption))
  all_goals exact ⟨rfl, rfl⟩
theorem c_form_use (w : ByteArray) (hw : w.data.toList = [117, 115, 101]) : ∀ H, call Tryz.prog cfg0 0 72 [.v (.string w)] H = some (.tup [.v (.int .i64 7), .v (.int .i64 2), .v (.string ⟨#[78, 78]⟩)], H) :=
  call_fz Tryz.func72 rfl ok_form_use rfl (by simp only [fz_cons, fz_nil, go_sem, and_self]) (p_form_use w hw)

theorem ok_form_remove : fnOk Tryz.prog cfg0 72 Tryz.f72 = true := by kernel_rfl
theorem p_form_remove (w : ByteArray) (hw : w.data.toList = [114, 101, 109, 111, 118, 101]) : pure Tryz.prog cfg0 72 Tryz.f72 [.v (.string w)] = some (.tup [.v (.int .i64 7), .v (.int .i64 3), .v (.string ⟨#[78, 78]⟩)], true) := by
  refine pure_wp (rs := [.tmp 2, .tmp 3, .tmp 4]) rfl rfl ?_
  have hp0 : ∀ b, cfg0.pol 72 b = 0 := fun b => rfl
  have e_tick : (w.data.toList = [116, 105, 99, 107]) = False := eq_false (by rw [hw]; decide)
  have e_stop : (w.data.toList = [115, 116, 111, 112]) = False := eq_false (by rw [hw]; decide)
  have e_come : (w.data.toList = [99, 111, 109, 101]) = False := eq_false (by rw [hw]; decide)
  have e_close : (w.data.toList = [108, 111, 115, 101]) = False := eq_false (by rw [hw]; decide)
  have e_copy : (w.data.toList = [99, 111, 112, 121]) = False := eq_false (by rw [hw]; decide)
  have e_turn : (w.data.toList = [116, 117, 114, 110]) = False := eq_false (by rw [hw]; decide)
  have e_push : (w.data.toList = [112, 117, 115, 104]) = False := eq_false (by rw [hw]; decide)
  have e_install : (w.data.toList = [105, 110, 115, 116, 97, 108, 108]) = False := eq_false (by rw [hw]; decide)
  have e_use : (w.data.toList = [117, 115, 101]) = False := eq_false (by rw [hw]; decide)
  have e_remove : (w.data.toList = [114, 101, 109, 111, 118, 101]) = True := eq_true hw
  repeat' (first | ((first | refine wSeqr ?_ | refine wIf ?_ | refine wReg ?_ | (refine wRet ?_; (try simp only [thenQ, blockQ]); refine ends_by ?_)); intro xx hx; have hc := trivial; (repeat' (simp only [hc, Nat.reduceBEq, go_sem, Nat.reduceAdd, Nat.reduceMul, Nat.reduceSub, Nat.reduceEqDiff, Nat.reduceLT, Nat.reduceLeDiff, Int.reduceEq, Int.reduceLT, Int.reduceLE, reduceIte, aresults, aresult, hp0, str_eq, e_tick, e_stop, e_come, e_close, e_copy, e_turn, e_push, e_install, e_use, e_remove, decide_true, decide_false, Bool.not_true, Bool.not_false] at hx; (try (rw [guardL_if] at hx; split at hx <;> rename_i hc)))); all_goals (subst hx; first | (refine ⟨_, rfl, fun ht => ?_, fun ht => ?_⟩ <;> (try simp only [bbs] at ht)) | (refine ⟨_, rfl, ?_⟩; (try simp only [tupOf])))) | refine wSkip ?_ | (refine wExit ?_; simp only [thenQ, blockQ, reduceIte, Nat.reduceEqDiff]) | refine wSeq ?_ | refine wBlock ?_)
  all_goals try (exfalso; (try simp only [bbs] at *); first | omega | exact absurd trivial (by assumption))
  all_goals exact ⟨rfl, rfl⟩
theorem c_form_remove (w : ByteArray) (hw : w.data.toList = [114, 101, 109, 111, 118, 101]) : ∀ H, call Tryz.prog cfg0 0 72 [.v (.string w)] H = some (.tup [.v (.int .i64 7), .v (.int .i64 3), .v (.string ⟨#[78, 78]⟩)], H) :=
  call_fz Tryz.func72 rfl ok_form_remove rfl (by simp only [fz_cons, fz_nil, go_sem, and_self]) (p_form_remove w hw)

theorem ok_form_none : fnOk Tryz.prog cfg0 72 Tryz.f72 = true := by kernel_rfl
theorem p_form_none (w : ByteArray) (n_tick : ¬ w.data.toList = [116, 105, 99, 107]) (n_stop : ¬ w.data.toList = [115, 116, 111, 112]) (n_come : ¬ w.data.toList = [99, 111, 109, 101]) (n_close : ¬ w.data.toList = [108, 111, 115, 101]) (n_copy : ¬ w.data.toList = [99, 111, 112, 121]) (n_turn : ¬ w.data.toList = [116, 117, 114, 110]) (n_push : ¬ w.data.toList = [112, 117, 115, 104]) (n_install : ¬ w.data.toList = [105, 110, 115, 116, 97, 108, 108]) (n_use : ¬ w.data.toList = [117, 115, 101]) (n_remove : ¬ w.data.toList = [114, 101, 109, 111, 118, 101]) : pure Tryz.prog cfg0 72 Tryz.f72 [.v (.string w)] = some (.tup [.v (.int .i64 0), .v (.int .i64 0), .v (.string ⟨#[]⟩)], true) := by
  refine pure_wp (rs := [.tmp 2, .tmp 3, .tmp 4]) rfl rfl ?_
  have hp0 : ∀ b, cfg0.pol 72 b = 0 := fun b => rfl
  have e_tick : (w.data.toList = [116, 105, 99, 107]) = False := eq_false n_tick
  have e_stop : (w.data.toList = [115, 116, 111, 112]) = False := eq_false n_stop
  have e_come : (w.data.toList = [99, 111, 109, 101]) = False := eq_false n_come
  have e_close : (w.data.toList = [108, 111, 115, 101]) = False := eq_false n_close
  have e_copy : (w.data.toList = [99, 111, 112, 121]) = False := eq_false n_copy
  have e_turn : (w.data.toList = [116, 117, 114, 110]) = False := eq_false n_turn
  have e_push : (w.data.toList = [112, 117, 115, 104]) = False := eq_false n_push
  have e_install : (w.data.toList = [105, 110, 115, 116, 97, 108, 108]) = False := eq_false n_install
  have e_use : (w.data.toList = [117, 115, 101]) = False := eq_false n_use
  have e_remove : (w.data.toList = [114, 101, 109, 111, 118, 101]) = False := eq_false n_remove
  repeat' (first | ((first | refine wSeqr ?_ | refine wIf ?_ | refine wReg ?_ | (refine wRet ?_; (try simp only [thenQ, blockQ]); refine ends_by ?_)); intro xx hx; have hc := trivial; (repeat' (simp only [hc, Nat.reduceBEq, go_sem, Nat.reduceAdd, Nat.reduceMul, Nat.reduceSub, Nat.reduceEqDiff, Nat.reduceLT, Nat.reduceLeDiff, Int.reduceEq, Int.reduceLT, Int.reduceLE, reduceIte, aresults, aresult, hp0, str_eq, e_tick, e_stop, e_come, e_close, e_copy, e_turn, e_push, e_install, e_use, e_remove, decide_true, decide_false, Bool.not_true, Bool.not_false] at hx; (try (rw [guardL_if] at hx; split at hx <;> rename_i hc)))); all_goals (subst hx; first | (refine ⟨_, rfl, fun ht => ?_, fun ht => ?_⟩ <;> (try simp only [bbs] at ht)) | (refine ⟨_, rfl, ?_⟩; (try simp only [tupOf])))) | refine wSkip ?_ | (refine wExit ?_; simp only [thenQ, blockQ, reduceIte, Nat.reduceEqDiff]) | refine wSeq ?_ | refine wBlock ?_)
  all_goals try (exfalso; (try simp only [bbs] at *); first | omega | exact absurd trivial (by assumption))
  all_goals exact ⟨rfl, rfl⟩
theorem c_form_none (w : ByteArray) (n_tick : ¬ w.data.toList = [116, 105, 99, 107]) (n_stop : ¬ w.data.toList = [115, 116, 111, 112]) (n_come : ¬ w.data.toList = [99, 111, 109, 101]) (n_close : ¬ w.data.toList = [108, 111, 115, 101]) (n_copy : ¬ w.data.toList = [99, 111, 112, 121]) (n_turn : ¬ w.data.toList = [116, 117, 114, 110]) (n_push : ¬ w.data.toList = [112, 117, 115, 104]) (n_install : ¬ w.data.toList = [105, 110, 115, 116, 97, 108, 108]) (n_use : ¬ w.data.toList = [117, 115, 101]) (n_remove : ¬ w.data.toList = [114, 101, 109, 111, 118, 101]) : ∀ H, call Tryz.prog cfg0 0 72 [.v (.string w)] H = some (.tup [.v (.int .i64 0), .v (.int .i64 0), .v (.string ⟨#[]⟩)], H) :=
  call_fz Tryz.func72 rfl ok_form_none rfl (by simp only [fz_cons, fz_nil, go_sem, and_self]) (p_form_none w n_tick n_stop n_come n_close n_copy n_turn n_push n_install n_use n_remove)

theorem slice_rest {c : List AV} {xs : List (List AV)} (h : (c :: xs).all (fun r => decide (r.length = 1)) = true) (e : Env) (H : Hp) : aslice Tryz.prog H e 46 (.lst false (c :: xs)) (some (.const (.int .i64 1))) none none = some (.lst false xs) := by
  simp only [aslice, u46, bound, opd_int, natOf, sz9, Option.bind_some, List.length_cons, Int.reduceLE, if_true, h, true_and]
  rw [if_pos ⟨by show 1 ≤ xs.length + 1; omega, Nat.le_refl _⟩]
  simp
end
end Go.Proofs.YtakbbccdnkigpaaGreatDoor
