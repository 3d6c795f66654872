/- Contracts: lists of messages out of bytes. -/
import Derived.Test.YtmpkcilehideiaaN4
namespace Go.Proofs.Ytmpkcilehideiaa
open Go Go.RowKit Go.Proofs.Ytmpkcilehideiaa.Eng
set_option linter.unusedSimpArgs false
set_option linter.unusedVariables false
set_option maxRecDepth 100000
set_option maxHeartbeats 4000000
noncomputable section
/-- The first message of some bytes, and what is behind it. -/
def stepD (r : List Int) : Option (MessageM × List Int) := match r with
  | [] => none
  | e :: t => if (t.length : Int) < e then none else if decB (t.take e.toNat) = true then some (decM (t.take e.toNat), t.drop e.toNat) else none
/-- The first j messages of some bytes, and what is behind them. -/
def decN : Nat → List Int → Option (List MessageM × List Int)
  | 0, r => some ([], r)
  | j + 1, r => (decN j r).bind fun p => (stepD p.2).map fun q => (p.1 ++ [q.1], q.2)
theorem decN_none {j n : Nat} {r : List Int} {p : List MessageM × List Int} (h : decN j r = some p) (hs : stepD p.2 = none) (hj : j < n) : decN n r = none := by
  obtain ⟨d, rfl⟩ : ∃ d, n = j + 1 + d := ⟨n - j - 1, by omega⟩
  clear hj
  induction d with
  | zero => simp [decN, h, hs]
  | succ d ih =>
    show (decN (j + 1 + d) r).bind _ = none
    rw [ih]; rfl
theorem decN_some {j : Nat} {r : List Int} {p : List MessageM × List Int} {q : MessageM × List Int} (h : decN j r = some p) (hs : stepD p.2 = some q) : decN (j + 1) r = some (p.1 ++ [q.1], q.2) := by
  simp [decN, h, hs]
/-- All messages of some bytes, and whether these are all. -/
def allM (l : List Int) : List MessageM × Bool := match l with
  | [] => ([], false)
  | c :: r => if 12 < c then ([], false) else match decN c.toNat r with
    | none => ([], false)
    | some (ms, rest) => (ms, decide (rest.length = 0))
def dmC (l : List Int) : Int := if 300 < l.length then 2 else if (allM l).2 = true then 0 else 5
def dmL (l : List Int) : List MessageM := if 300 < l.length then [] else if (allM l).2 = true then (allM l).1 else []
theorem allM_none {c : Int} {r : List Int} (hc : ¬ 12 < c) (h : decN c.toNat r = none) : allM (c :: r) = ([], false) := by simp only [allM, if_neg hc, h]
theorem allM_some {c : Int} {r : List Int} (hc : ¬ 12 < c) {ms : List MessageM} {rest : List Int} (h : decN c.toNat r = some (ms, rest)) : allM (c :: r) = (ms, decide (rest.length = 0)) := by simp only [allM, if_neg hc, h]
theorem i00 : (((0 : Nat) : Int) = 0) = True := by simp
theorem gO_two (c : Int) {t x : AV} {H : Hp} (h : GivesF 11 t x H) : GivesO (.agg [.v (.int .i64 c), t]) (.agg [.v (.int .i64 c), x]) H := by
  refine gF_O (gF_agg (n := 10) h [.v (.int .i64 c)] ?_)
  intro z hz
  simp only [List.mem_cons, List.not_mem_nil, or_false] at hz
  subst hz
  exact ⟨_, rfl, plain_int _ _⟩
theorem gO_code {c d : Int} {ms : List MessageM} {H : Hp} (hc : c = d) (hm : ms = []) : GivesO (.agg [.v (.int .i64 c), .lst false (ms.map encMessage)]) (.agg [.v (.int .i64 d), .v (.slice none 0 0)]) H := by
  subst hc; subst hm; exact gO_two c (gF_nil 10 H)
theorem flat_msgs (ms : List MessageM) (m : MessageM) : (ms.map encMessage).flatten ++ encMessage m = ((ms ++ [m]).map encMessage).flatten := by simp
theorem byt_take {l : List Int} (h : Eng.Bytes l) (n : Nat) : Eng.Bytes (l.take n) := fun z hz => h z (List.mem_of_mem_take hz)
theorem byt_drop {l : List Int} (h : Eng.Bytes l) (n : Nat) : Eng.Bytes (l.drop n) := fun z hz => h z (List.mem_of_mem_drop hz)
theorem ok_iDecodeMessages : fnOk Try.prog cfg0 7 Try.f7 = true := by kernel_rfl
theorem pq_iDecodeMessages (l : List Int) (hb : Eng.Bytes l) (hl : l.length ≤ 1048576) : pure Try.prog cfg0 7 Try.f7 [bytesL l] = some (.agg [.v (.int .i64 (dmC l)), .lst false ((dmL l).map encMessage)], true) ∧ owned Try.prog cfg0 7 Try.f7 [bytesL l] = some (.agg [.v (.int .i64 (dmC l)), .lst false ((dmL l).map encMessage)]) := by
  refine both_wp (rs := [.cell 2 25]) rfl rfl ?_
  have hp0 : ∀ b, cfg0.pol 7 b = (if b = 54 then 1 else 0) := fun b => rfl
  by_cases hbig : 300 < l.length
  · repeat' (first | ((first | refine wSeqr (fun xx hx => ?_) | refine wSeqrF (fun xx hx => ?_) | refine wIf (fun xx hx => ?_) | refine wReg (fun xx hx => ?_) | refine wRegF (fun xx hx => ?_) | (refine wRet ?_; (try simp only [thenQ, blockQ]); (try (subst hQQ; (try simp only [thenQ, blockQ]))); refine ends_by (fun xx hx => ?_))); have hc := trivial; (repeat' (simp only [hc, Nat.reduceBEq, go_sem, Nat.reduceAdd, Nat.reduceMul, Nat.reduceSub, Nat.reduceEqDiff, Nat.reduceLT, Nat.reduceLeDiff, Int.reduceEq, Int.reduceLT, Int.reduceLE, reduceIte, aresults, aresult, hp0] at hx; (try ((first | rw [guardL_if] at hx | rw [guardF_if] at hx); split at hx <;> rename_i hc)))); all_goals (subst hx; first | (refine ⟨_, rfl, fun ht => ?_, fun ht => ?_⟩ <;> (try simp only [Bool.not_eq_true', Bool.not_eq_false', Bool.and_eq_true, Bool.and_eq_false_iff, Bool.or_eq_true, Bool.or_eq_false_iff, decide_eq_true_eq, decide_eq_false_iff_not, beq_iff_eq, bne_iff_ne, Bool.not_true, Bool.not_false, Bool.true_eq_false, Bool.false_eq_true, ne_eq, Decidable.not_not, inB_t, inB_f] at ht)) | (refine ⟨_, rfl, ?_⟩; (try simp only [tupOf])))) | refine wSkip ?_ | (refine wExit ?_; simp only [thenQ, blockQ, reduceIte, Nat.reduceEqDiff]) | refine wSeq ?_ | refine wBlock ?_ | (subst hQQ; (try simp only [thenQ, blockQ, reduceIte, Nat.reduceEqDiff])))
    all_goals first
      | (exfalso; (try simp only [Bool.not_eq_true', Bool.not_eq_false', Bool.and_eq_true, Bool.and_eq_false_iff, Bool.or_eq_true, Bool.or_eq_false_iff, decide_eq_true_eq, decide_eq_false_iff_not, beq_iff_eq, bne_iff_ne, Bool.not_true, Bool.not_false, Bool.true_eq_false, Bool.false_eq_true, ne_eq, Decidable.not_not, inB_t, inB_f] at *); omega)
      | skip
    all_goals exact gO_code (if_pos hbig) (if_pos hbig)
  cases l with
  | nil =>
    repeat' (first | ((first | refine wSeqr (fun xx hx => ?_) | refine wSeqrF (fun xx hx => ?_) | refine wIf (fun xx hx => ?_) | refine wReg (fun xx hx => ?_) | refine wRegF (fun xx hx => ?_) | (refine wRet ?_; (try simp only [thenQ, blockQ]); (try (subst hQQ; (try simp only [thenQ, blockQ]))); refine ends_by (fun xx hx => ?_))); have hc := trivial; (repeat' (simp only [hc, Nat.reduceBEq, go_sem, Nat.reduceAdd, Nat.reduceMul, Nat.reduceSub, Nat.reduceEqDiff, Nat.reduceLT, Nat.reduceLeDiff, Int.reduceEq, Int.reduceLT, Int.reduceLE, reduceIte, aresults, aresult, hp0, List.length_nil, i00] at hx; (try ((first | rw [guardL_if] at hx | rw [guardF_if] at hx); split at hx <;> rename_i hc)))); all_goals (subst hx; first | (refine ⟨_, rfl, fun ht => ?_, fun ht => ?_⟩ <;> (try simp only [Bool.not_eq_true', Bool.not_eq_false', Bool.and_eq_true, Bool.and_eq_false_iff, Bool.or_eq_true, Bool.or_eq_false_iff, decide_eq_true_eq, decide_eq_false_iff_not, beq_iff_eq, bne_iff_ne, Bool.not_true, Bool.not_false, Bool.true_eq_false, Bool.false_eq_true, ne_eq, Decidable.not_not, inB_t, inB_f] at ht)) | (refine ⟨_, rfl, ?_⟩; (try simp only [tupOf])))) | refine wSkip ?_ | (refine wExit ?_; simp only [thenQ, blockQ, reduceIte, Nat.reduceEqDiff]) | refine wSeq ?_ | refine wBlock ?_ | (subst hQQ; (try simp only [thenQ, blockQ, reduceIte, Nat.reduceEqDiff])))
    all_goals first
      | (exfalso; (try simp only [Bool.not_eq_true', Bool.not_eq_false', Bool.and_eq_true, Bool.and_eq_false_iff, Bool.or_eq_true, Bool.or_eq_false_iff, decide_eq_true_eq, decide_eq_false_iff_not, beq_iff_eq, bne_iff_ne, Bool.not_true, Bool.not_false, Bool.true_eq_false, Bool.false_eq_true, ne_eq, Decidable.not_not, inB_t, inB_f] at *); simp at *; done)
      | skip
    all_goals exact gO_code rfl rfl
  | cons c r =>
    have hc8 := hb c (by simp)
    have hrb : Eng.Bytes r := fun z hz => hb z (by simp [hz])
    have hrl : r.length + 1 ≤ 300 := by simp only [List.length_cons] at hbig; omega
    have hlc : (c :: r).length = r.length + 1 := rfl
    by_cases hc12 : 12 < c
    · have ha : allM (c :: r) = ([], false) := by simp only [allM, if_pos hc12]
      have h1 : dmC (c :: r) = 5 := by unfold dmC; rw [if_neg hbig, ha]; rfl
      have h2 : dmL (c :: r) = [] := by unfold dmL; rw [if_neg hbig, ha]; rfl
      repeat' (first | ((first | refine wSeqr (fun xx hx => ?_) | refine wSeqrF (fun xx hx => ?_) | refine wIf (fun xx hx => ?_) | refine wReg (fun xx hx => ?_) | refine wRegF (fun xx hx => ?_) | (refine wRet ?_; (try simp only [thenQ, blockQ]); (try (subst hQQ; (try simp only [thenQ, blockQ]))); refine ends_by (fun xx hx => ?_))); have hc := trivial; (repeat' (simp only [hc, Nat.reduceBEq, go_sem, Nat.reduceAdd, Nat.reduceMul, Nat.reduceSub, Nat.reduceEqDiff, Nat.reduceLT, Nat.reduceLeDiff, Int.reduceEq, Int.reduceLT, Int.reduceLE, reduceIte, aresults, aresult, hp0, hlc] at hx; (try ((first | rw [guardL_if] at hx | rw [guardF_if] at hx); split at hx <;> rename_i hc)))); all_goals (subst hx; first | (refine ⟨_, rfl, fun ht => ?_, fun ht => ?_⟩ <;> (try simp only [Bool.not_eq_true', Bool.not_eq_false', Bool.and_eq_true, Bool.and_eq_false_iff, Bool.or_eq_true, Bool.or_eq_false_iff, decide_eq_true_eq, decide_eq_false_iff_not, beq_iff_eq, bne_iff_ne, Bool.not_true, Bool.not_false, Bool.true_eq_false, Bool.false_eq_true, ne_eq, Decidable.not_not, inB_t, inB_f] at ht)) | (refine ⟨_, rfl, ?_⟩; (try simp only [tupOf])))) | refine wSkip ?_ | (refine wExit ?_; simp only [thenQ, blockQ, reduceIte, Nat.reduceEqDiff]) | refine wSeq ?_ | refine wBlock ?_ | (subst hQQ; (try simp only [thenQ, blockQ, reduceIte, Nat.reduceEqDiff])))
      all_goals first
        | (exfalso; (try simp only [Bool.not_eq_true', Bool.not_eq_false', Bool.and_eq_true, Bool.and_eq_false_iff, Bool.or_eq_true, Bool.or_eq_false_iff, decide_eq_true_eq, decide_eq_false_iff_not, beq_iff_eq, bne_iff_ne, Bool.not_true, Bool.not_false, Bool.true_eq_false, Bool.false_eq_true, ne_eq, Decidable.not_not, inB_t, inB_f] at *); omega)
        | skip
      all_goals exact gO_code h1 h2
    have hbad : decN c.toNat r = none → dmC (c :: r) = 5 ∧ dmL (c :: r) = [] := fun h => by
      have ha := allM_none hc12 h
      exact ⟨by unfold dmC; rw [if_neg hbig, ha]; rfl, by unfold dmL; rw [if_neg hbig, ha]; rfl⟩
    repeat' (first | ((first | refine wSeqr (fun xx hx => ?_) | refine wSeqrF (fun xx hx => ?_) | refine wIf (fun xx hx => ?_) | refine wReg (fun xx hx => ?_) | refine wRegF (fun xx hx => ?_) | (refine wRet ?_; (try simp only [thenQ, blockQ]); (try (subst hQQ; (try simp only [thenQ, blockQ]))); refine ends_by (fun xx hx => ?_))); have hc := trivial; (repeat' (simp only [hc, Nat.reduceBEq, go_sem, Nat.reduceAdd, Nat.reduceMul, Nat.reduceSub, Nat.reduceEqDiff, Nat.reduceLT, Nat.reduceLeDiff, Int.reduceEq, Int.reduceLT, Int.reduceLE, reduceIte, aresults, aresult, hp0, hlc, show 1 ≤ r.length + 1 by omega] at hx; (try ((first | rw [guardL_if] at hx | rw [guardF_if] at hx); split at hx <;> rename_i hc)))); all_goals (subst hx; first | (refine ⟨_, rfl, fun ht => ?_, fun ht => ?_⟩ <;> (try simp only [Bool.not_eq_true', Bool.not_eq_false', Bool.and_eq_true, Bool.and_eq_false_iff, Bool.or_eq_true, Bool.or_eq_false_iff, decide_eq_true_eq, decide_eq_false_iff_not, beq_iff_eq, bne_iff_ne, Bool.not_true, Bool.not_false, Bool.true_eq_false, Bool.false_eq_true, ne_eq, Decidable.not_not, inB_t, inB_f] at ht)) | (refine ⟨_, rfl, ?_⟩; (try simp only [tupOf])))) | refine wSkip ?_ | (refine wExit ?_; simp only [thenQ, blockQ, reduceIte, Nat.reduceEqDiff]) | refine wSeq ?_ | refine wBlock ?_ | (subst hQQ; (try simp only [thenQ, blockQ, reduceIte, Nat.reduceEqDiff])))
    all_goals first
      | (exfalso; (try simp only [Bool.not_eq_true', Bool.not_eq_false', Bool.and_eq_true, Bool.and_eq_false_iff, Bool.or_eq_true, Bool.or_eq_false_iff, decide_eq_true_eq, decide_eq_false_iff_not, beq_iff_eq, bne_iff_ne, Bool.not_true, Bool.not_false, Bool.true_eq_false, Bool.false_eq_true, ne_eq, Decidable.not_not, inB_t, inB_f] at *); omega)
      | skip
    refine wLoop (fun k s => ∃ (j : Nat) (x : AV) (ms : List MessageM) (rest : List Int) (hi : Nat) (gg : Nat), j + k = c.toNat ∧ s.1 0 = bytesL (c :: r) ∧ s.1 2 = .ptr 0 0 ∧ s.1 3 = .ptr 1 0 ∧ s.1 4 = .ptr 2 0 ∧ s.1 5 = bytesL rest ∧ s.1 29 = .v (.int .u8 c) ∧ s.1 30 = .v (.int .u8 (j : Nat)) ∧ (decN j r = some (ms, rest)) ∧ (s.2.h 0 = some [.v (.int .i64 0), .v (.slice none 0 0)]) ∧ (s.2.h 1 = some [.v (.int .i64 5), .v (.slice none 0 0)]) ∧ (s.2.h 2 = some [.v (.int .i64 0), x]) ∧ (LAcc s.2 x 10 3 hi gg ((ms.map encMessage).flatten) ms.length) ∧ (Eng.Bytes rest ∧ rest.length ≤ 300 ∧ ms.length = j)) (fun k s hI => ?_) (c.toNat) _ ?_
    · obtain ⟨e, H⟩ := s
      obtain ⟨j, x, ms, rest, hi, gg, hj, h0, h2, h3, h4, h5, h29, h30, hdec, hb0, hb1, hb2, hacc, hrest⟩ := hI
      simp only at h0 h2 h3 h4 h5 h29 h30 hdec hb0 hb1 hb2 hacc hrest
      obtain ⟨hrb2, hrl2, hml⟩ := hrest
      have hgg := hacc.gle
      have hone := hacc.one
      by_cases hlt : j < c.toNat
      · have hltI : ((j : Nat) : Int) < c := by omega
        cases rest with
        | nil =>
          obtain ⟨q1, q2⟩ := hbad (decN_none hdec rfl hlt)
          repeat' (first | ((first | refine wSeqr (fun xx hx => ?_) | refine wSeqrF (fun xx hx => ?_) | refine wIf (fun xx hx => ?_) | refine wReg (fun xx hx => ?_) | refine wRegF (fun xx hx => ?_) | (refine wRet ?_; (try simp only [thenQ, blockQ]); (try (subst hQQ; (try simp only [thenQ, blockQ]))); refine ends_by (fun xx hx => ?_))); have hc := trivial; (repeat' (simp only [hc, Nat.reduceBEq, go_sem, Nat.reduceAdd, Nat.reduceMul, Nat.reduceSub, Nat.reduceEqDiff, Nat.reduceLT, Nat.reduceLeDiff, Int.reduceEq, Int.reduceLT, Int.reduceLE, reduceIte, aresults, aresult, hp0, h2, h3, h5, h29, h30, hltI, hb0, hb1, List.length_nil, i00] at hx; (try ((first | rw [guardL_if] at hx | rw [guardF_if] at hx); split at hx <;> rename_i hc)))); all_goals (subst hx; first | (refine ⟨_, rfl, fun ht => ?_, fun ht => ?_⟩ <;> (try simp only [Bool.not_eq_true', Bool.not_eq_false', Bool.and_eq_true, Bool.and_eq_false_iff, Bool.or_eq_true, Bool.or_eq_false_iff, decide_eq_true_eq, decide_eq_false_iff_not, beq_iff_eq, bne_iff_ne, Bool.not_true, Bool.not_false, Bool.true_eq_false, Bool.false_eq_true, ne_eq, Decidable.not_not, inB_t, inB_f] at ht)) | (refine ⟨_, rfl, ?_⟩; (try simp only [tupOf])))) | refine wSkip ?_ | (refine wExit ?_; simp only [thenQ, blockQ, reduceIte, Nat.reduceEqDiff]) | refine wSeq ?_ | refine wBlock ?_ | (subst hQQ; (try simp only [thenQ, blockQ, reduceIte, Nat.reduceEqDiff])))
          all_goals first
            | (exfalso; (try simp only [Bool.not_eq_true', Bool.not_eq_false', Bool.and_eq_true, Bool.and_eq_false_iff, Bool.or_eq_true, Bool.or_eq_false_iff, decide_eq_true_eq, decide_eq_false_iff_not, beq_iff_eq, bne_iff_ne, Bool.not_true, Bool.not_false, Bool.true_eq_false, Bool.false_eq_true, ne_eq, Decidable.not_not, inB_t, inB_f] at *); simp at *; done)
            | skip
          all_goals exact gO_code q1 q2
        | cons a t =>
          have ha8 := hrb2 a (by simp)
          have htl : t.length + 1 ≤ 300 := hrl2
          have wa : IntKind.wrap .i64 a = a := wrap_i64 (by omega) (by omega)
          have wa1 : IntKind.wrap .i64 (1 + a) = 1 + a := wrap_i64 (by omega) (by omega)
          by_cases hta : (t.length : Int) < a
          · obtain ⟨q1, q2⟩ := hbad (decN_none hdec (by simp only [stepD, if_pos hta]) hlt)
            repeat' (first | ((first | refine wSeqr (fun xx hx => ?_) | refine wSeqrF (fun xx hx => ?_) | refine wIf (fun xx hx => ?_) | refine wReg (fun xx hx => ?_) | refine wRegF (fun xx hx => ?_) | (refine wRet ?_; (try simp only [thenQ, blockQ]); (try (subst hQQ; (try simp only [thenQ, blockQ]))); refine ends_by (fun xx hx => ?_))); have hc := trivial; (repeat' (simp only [hc, Nat.reduceBEq, go_sem, Nat.reduceAdd, Nat.reduceMul, Nat.reduceSub, Nat.reduceEqDiff, Nat.reduceLT, Nat.reduceLeDiff, Int.reduceEq, Int.reduceLT, Int.reduceLE, reduceIte, aresults, aresult, hp0, h2, h3, h5, h29, h30, hltI, hb0, hb1, List.length_cons, wa, aconv_int u5 u3] at hx; (try ((first | rw [guardL_if] at hx | rw [guardF_if] at hx); split at hx <;> rename_i hc)))); all_goals (subst hx; first | (refine ⟨_, rfl, fun ht => ?_, fun ht => ?_⟩ <;> (try simp only [Bool.not_eq_true', Bool.not_eq_false', Bool.and_eq_true, Bool.and_eq_false_iff, Bool.or_eq_true, Bool.or_eq_false_iff, decide_eq_true_eq, decide_eq_false_iff_not, beq_iff_eq, bne_iff_ne, Bool.not_true, Bool.not_false, Bool.true_eq_false, Bool.false_eq_true, ne_eq, Decidable.not_not, inB_t, inB_f] at ht)) | (refine ⟨_, rfl, ?_⟩; (try simp only [tupOf])))) | refine wSkip ?_ | (refine wExit ?_; simp only [thenQ, blockQ, reduceIte, Nat.reduceEqDiff]) | refine wSeq ?_ | refine wBlock ?_ | (subst hQQ; (try simp only [thenQ, blockQ, reduceIte, Nat.reduceEqDiff])))
            all_goals first
              | (exfalso; (try simp only [Bool.not_eq_true', Bool.not_eq_false', Bool.and_eq_true, Bool.and_eq_false_iff, Bool.or_eq_true, Bool.or_eq_false_iff, decide_eq_true_eq, decide_eq_false_iff_not, beq_iff_eq, bne_iff_ne, Bool.not_true, Bool.not_false, Bool.true_eq_false, Bool.false_eq_true, ne_eq, Decidable.not_not, inB_t, inB_f] at *); omega)
              | skip
            all_goals exact gO_code q1 q2
          have hnat : natOf (.v (.int .i64 (1 + a))) = some (1 + a.toNat) := by
            simp only [natOf]
            rw [if_pos (by omega)]; congr 1; omega
          have hsub : 1 + a.toNat - 1 = a.toNat := by omega
          have hdr : List.drop (1 + a.toNat) (a :: t) = t.drop a.toNat := by rw [Nat.add_comm]; rfl
          have hcd := o_idecoded (t.take a.toNat) (byt_take (fun z hz => hrb2 z (by simp [hz])) _) (by simp; omega)
          repeat' (first | ((first | refine wSeqr (fun xx hx => ?_) | refine wSeqrF (fun xx hx => ?_) | refine wIf (fun xx hx => ?_) | refine wReg (fun xx hx => ?_) | refine wRegF (fun xx hx => ?_) | (refine wRet ?_; (try simp only [thenQ, blockQ]); (try (subst hQQ; (try simp only [thenQ, blockQ]))); refine ends_by (fun xx hx => ?_))); have hc := trivial; (repeat' (simp only [hc, Nat.reduceBEq, go_sem, Nat.reduceAdd, Nat.reduceMul, Nat.reduceSub, Nat.reduceEqDiff, Nat.reduceLT, Nat.reduceLeDiff, Int.reduceEq, Int.reduceLT, Int.reduceLE, reduceIte, aresults, aresult, hp0, h2, h3, h5, h29, h30, hltI, hb0, hb1, List.length_cons, wa, wa1, aconv_int u5 u3] at hx; (try ((first | rw [guardL_if] at hx | rw [guardF_if] at hx); split at hx <;> rename_i hc)))); all_goals (subst hx; first | (refine ⟨_, rfl, fun ht => ?_, fun ht => ?_⟩ <;> (try simp only [Bool.not_eq_true', Bool.not_eq_false', Bool.and_eq_true, Bool.and_eq_false_iff, Bool.or_eq_true, Bool.or_eq_false_iff, decide_eq_true_eq, decide_eq_false_iff_not, beq_iff_eq, bne_iff_ne, Bool.not_true, Bool.not_false, Bool.true_eq_false, Bool.false_eq_true, ne_eq, Decidable.not_not, inB_t, inB_f] at ht)) | (refine ⟨_, rfl, ?_⟩; (try simp only [tupOf])))) | refine wSkip ?_ | (refine wExit ?_; simp only [thenQ, blockQ, reduceIte, Nat.reduceEqDiff]) | refine wSeq ?_ | refine wBlock ?_ | (subst hQQ; (try simp only [thenQ, blockQ, reduceIte, Nat.reduceEqDiff])))
          all_goals first
            | (exfalso; (try simp only [Bool.not_eq_true', Bool.not_eq_false', Bool.and_eq_true, Bool.and_eq_false_iff, Bool.or_eq_true, Bool.or_eq_false_iff, decide_eq_true_eq, decide_eq_false_iff_not, beq_iff_eq, bne_iff_ne, Bool.not_true, Bool.not_false, Bool.true_eq_false, Bool.false_eq_true, ne_eq, Decidable.not_not, inB_t, inB_f] at *); omega)
            | skip
          (first | refine wSeqr (fun xx hx => ?_) | refine wSeqrF (fun xx hx => ?_) | refine wReg (fun xx hx => ?_) | refine wRegF (fun xx hx => ?_)); have hc := trivial; (repeat' (simp only [hc, Nat.reduceBEq, go_sem, Nat.reduceAdd, Nat.reduceMul, Nat.reduceSub, Nat.reduceEqDiff, Nat.reduceLT, Nat.reduceLeDiff, Int.reduceEq, Int.reduceLT, Int.reduceLE, reduceIte, aresults, aresult, hp0, h2, h3, h5, h29, h30, hnat, hsub, List.length_cons, show 1 ≤ 1 + a.toNat by omega, show 1 + a.toNat ≤ t.length + 1 by omega, hcd] at hx; (try ((first | rw [guardL_if] at hx | rw [guardF_if] at hx); split at hx <;> rename_i hc)))); generalize hq : mat depthD _ _ = q at hx
          obtain ⟨zm, H1, rfl, hx1, hL⟩ := mat_tupQ hq (gE_Message 7 (decM (t.take a.toNat))) (by omega)
          clear hq
          have f0 := hL
          (try simp only [encMessage] at f0)
          obtain ⟨t1, rfl, f1⟩ := f0.invV
          obtain ⟨t2, rfl, f2⟩ := f1.invV
          obtain ⟨t3, rfl, f3⟩ := f2.invV
          obtain ⟨t4, rfl, f4⟩ := f3.invV
          obtain ⟨t5, rfl, f5⟩ := f4.invV
          obtain ⟨t6, rfl, f6⟩ := f5.invV
          obtain ⟨t7, rfl, f7⟩ := f6.invV
          obtain ⟨t8, rfl, f8⟩ := f7.invV
          obtain ⟨t9, rfl, f9⟩ := f8.invV
          obtain ⟨z, t10, mx, rfl, a0, b0, y0, f10⟩ := f9.invL
          obtain rfl := f10.invN
          have k0 := (okc_laid y0).1
          have j0 := (okc_laid y0).2
          have G1 : H.g ≤ H1.g := hx1.1
          have r0 : H1.h 0 = _ := (hx1.2 0 (by omega)).trans hb0
          have r1 : H1.h 1 = _ := (hx1.2 1 (by omega)).trans hb1
          have r2 : H1.h 2 = _ := (hx1.2 2 (by omega)).trans hb2
          have ne0 : (0 = H1.g) = False := eq_false (by omega)
          have ne1 : (1 = H1.g) = False := eq_false (by omega)
          have ne2 : (2 = H1.g) = False := eq_false (by omega)
          have hc := trivial; (repeat' (simp only [hc, Nat.reduceBEq, go_sem, Nat.reduceAdd, Nat.reduceMul, Nat.reduceSub, Nat.reduceEqDiff, Nat.reduceLT, Nat.reduceLeDiff, Int.reduceEq, Int.reduceLT, Int.reduceLE, reduceIte, aresults, aresult, hp0, k0, j0, ne0, ne1, ne2] at hx; (try ((first | rw [guardL_if] at hx | rw [guardF_if] at hx); split at hx <;> rename_i hc)))); all_goals (subst hx; refine ⟨_, rfl, ?_⟩)
          by_cases hd : decB (t.take a.toNat) = true
          rotate_left
          · have hd' : decB (t.take a.toNat) = false := by simpa using hd
            obtain ⟨q1, q2⟩ := hbad (decN_none hdec (by simp only [stepD, if_neg hta, if_neg hd]) hlt)
            repeat' (first | ((first | refine wSeqr (fun xx hx => ?_) | refine wSeqrF (fun xx hx => ?_) | refine wIf (fun xx hx => ?_) | refine wReg (fun xx hx => ?_) | refine wRegF (fun xx hx => ?_) | (refine wRet ?_; (try simp only [thenQ, blockQ]); (try (subst hQQ; (try simp only [thenQ, blockQ]))); refine ends_by (fun xx hx => ?_))); have hc := trivial; (repeat' (simp only [hc, Nat.reduceBEq, go_sem, Nat.reduceAdd, Nat.reduceMul, Nat.reduceSub, Nat.reduceEqDiff, Nat.reduceLT, Nat.reduceLeDiff, Int.reduceEq, Int.reduceLT, Int.reduceLE, reduceIte, aresults, aresult, hp0, h2, h3, hd', r0, r1, ne0, ne1, ne2] at hx; (try ((first | rw [guardL_if] at hx | rw [guardF_if] at hx); split at hx <;> rename_i hc)))); all_goals (subst hx; first | (refine ⟨_, rfl, fun ht => ?_, fun ht => ?_⟩ <;> (try simp only [Bool.not_eq_true', Bool.not_eq_false', Bool.and_eq_true, Bool.and_eq_false_iff, Bool.or_eq_true, Bool.or_eq_false_iff, decide_eq_true_eq, decide_eq_false_iff_not, beq_iff_eq, bne_iff_ne, Bool.not_true, Bool.not_false, Bool.true_eq_false, Bool.false_eq_true, ne_eq, Decidable.not_not, inB_t, inB_f] at ht)) | (refine ⟨_, rfl, ?_⟩; (try simp only [tupOf])))) | refine wSkip ?_ | (refine wExit ?_; simp only [thenQ, blockQ, reduceIte, Nat.reduceEqDiff]) | refine wSeq ?_ | refine wBlock ?_ | (subst hQQ; (try simp only [thenQ, blockQ, reduceIte, Nat.reduceEqDiff])))
            all_goals first
              | (exfalso; (try simp only [Bool.not_eq_true', Bool.not_eq_false', Bool.and_eq_true, Bool.and_eq_false_iff, Bool.or_eq_true, Bool.or_eq_false_iff, decide_eq_true_eq, decide_eq_false_iff_not, beq_iff_eq, bne_iff_ne, Bool.not_true, Bool.not_false, Bool.true_eq_false, Bool.false_eq_true, ne_eq, Decidable.not_not, inB_t, inB_f] at *); omega)
              | skip
            all_goals exact gO_code q1 q2
          · have hs1 : stepD (a :: t) = some (decM (t.take a.toNat), t.drop a.toNat) := by simp only [stepD, if_neg hta, if_pos hd]
            have hdec1 := decN_some hdec hs1
            repeat' (first | ((first | refine wSeqr (fun xx hx => ?_) | refine wSeqrF (fun xx hx => ?_) | refine wIf (fun xx hx => ?_) | refine wReg (fun xx hx => ?_) | refine wRegF (fun xx hx => ?_) | (refine wRet ?_; (try simp only [thenQ, blockQ]); (try (subst hQQ; (try simp only [thenQ, blockQ]))); refine ends_by (fun xx hx => ?_))); have hc := trivial; (repeat' (simp only [hc, Nat.reduceBEq, go_sem, Nat.reduceAdd, Nat.reduceMul, Nat.reduceSub, Nat.reduceEqDiff, Nat.reduceLT, Nat.reduceLeDiff, Int.reduceEq, Int.reduceLT, Int.reduceLE, reduceIte, aresults, aresult, hp0, h2, h3, hd] at hx; (try ((first | rw [guardL_if] at hx | rw [guardF_if] at hx); split at hx <;> rename_i hc)))); all_goals (subst hx; first | (refine ⟨_, rfl, fun ht => ?_, fun ht => ?_⟩ <;> (try simp only [Bool.not_eq_true', Bool.not_eq_false', Bool.and_eq_true, Bool.and_eq_false_iff, Bool.or_eq_true, Bool.or_eq_false_iff, decide_eq_true_eq, decide_eq_false_iff_not, beq_iff_eq, bne_iff_ne, Bool.not_true, Bool.not_false, Bool.true_eq_false, Bool.false_eq_true, ne_eq, Decidable.not_not, inB_t, inB_f] at ht)) | (refine ⟨_, rfl, ?_⟩; (try simp only [tupOf])))) | refine wSkip ?_ | (refine wExit ?_; simp only [thenQ, blockQ, reduceIte, Nat.reduceEqDiff]) | refine wSeq ?_ | refine wBlock ?_ | (subst hQQ; (try simp only [thenQ, blockQ, reduceIte, Nat.reduceEqDiff])))
            all_goals first
              | (exfalso; (try simp only [Bool.not_eq_true', Bool.not_eq_false', Bool.and_eq_true, Bool.and_eq_false_iff, Bool.or_eq_true, Bool.or_eq_false_iff, decide_eq_true_eq, decide_eq_false_iff_not, beq_iff_eq, bne_iff_ne, Bool.not_true, Bool.not_false, Bool.true_eq_false, Bool.false_eq_true, ne_eq, Decidable.not_not, inB_t, inB_f] at *); omega)
              | skip
            (first | refine wSeqr (fun xx hx => ?_) | refine wSeqrF (fun xx hx => ?_) | refine wReg (fun xx hx => ?_) | refine wRegF (fun xx hx => ?_)); have hc := trivial; (repeat' (simp only [hc, Nat.reduceBEq, go_sem, Nat.reduceAdd, Nat.reduceMul, Nat.reduceSub, Nat.reduceEqDiff, Nat.reduceLT, Nat.reduceLeDiff, Int.reduceEq, Int.reduceLT, Int.reduceLE, reduceIte, aresults, aresult, hp0, h4, r2, ne0, ne1, ne2, k0, j0] at hx; (try ((first | rw [guardL_if] at hx | rw [guardF_if] at hx); split at hx <;> rename_i hc)))); generalize hq : aappend Try.prog _ _ _ _ = q at hx
            obtain ⟨K, hK⟩ : ∃ K, K = (H1.new [.v (.int .i64 0), .v (.int .i64 0), .v (.int .i64 0), .v (.int .i64 0), .v (.int .i64 0), .v (.int .i64 0), .v (.int .i64 0), .v (.int .i64 0), .v (.int .i64 0), .v (.slice none 0 0)]).set H1.g [.v (.int .i64 (decM (t.take a.toNat)).Kind), .v (.int .i64 (decM (t.take a.toNat)).Seq), .v (.int .i64 (decM (t.take a.toNat)).Node), .v (.int .i64 (decM (t.take a.toNat)).Claim.Node), .v (.int .i64 (decM (t.take a.toNat)).Claim.Inc), .v (.int .i64 (decM (t.take a.toNat)).Claim.Status), .v (.int .i64 (decM (t.take a.toNat)).Claim.Meta), .v (.int .i64 (decM (t.take a.toNat)).Op), .v (.int .i64 (decM (t.take a.toNat)).Key.Id), z] := ⟨_, rfl⟩
            rw [← hK] at hq
            have hKg : K.g = H1.g + 1 := by rw [hK]; rfl
            have hKh : ∀ b, b < H1.g → K.h b = H1.h b := fun b hb => by
              rw [hK]; simp only [Hp.set_h, Hp.new_h]; rw [if_neg (by omega), if_neg (by omega)]
            obtain ⟨K', e', g', hacc', hlo, -⟩ := LAcc.row (P := Try.prog) el23 zero38 by38 int23 (sz := 10) rfl (by omega) (hacc.keep (K := K) (by omega) fun b _ hb => (hKh b (by omega)).trans (hx1.2 b (by omega))) (hL.keep (H' := K) fun b _ hb => hKh b hb) rfl (by omega) (by omega) (by omega) (by omega) true
            have e2 := hq.symm.trans e'
            clear hq
            subst e2
            have s0 : K'.h 0 = _ := (hlo 0 (by omega)).trans ((hKh 0 (by omega)).trans r0)
            have s1 : K'.h 1 = _ := (hlo 1 (by omega)).trans ((hKh 1 (by omega)).trans r1)
            have s2 : K'.h 2 = _ := (hlo 2 (by omega)).trans ((hKh 2 (by omega)).trans r2)
            have hc := trivial; (repeat' (simp only [hc, Nat.reduceBEq, go_sem, Nat.reduceAdd, Nat.reduceMul, Nat.reduceSub, Nat.reduceEqDiff, Nat.reduceLT, Nat.reduceLeDiff, Int.reduceEq, Int.reduceLT, Int.reduceLE, reduceIte, aresults, aresult, hp0, h4, s2] at hx; (try ((first | rw [guardL_if] at hx | rw [guardF_if] at hx); split at hx <;> rename_i hc)))); all_goals (subst hx; refine ⟨_, rfl, ?_⟩)
            have wj : IntKind.wrap .u8 (((j : Nat) : Int) + 1) = ((j + 1 : Nat) : Int) := by rw [wrap_u8 (by omega) (by omega)]; omega
            repeat' (first | ((first | refine wSeqr (fun xx hx => ?_) | refine wSeqrF (fun xx hx => ?_) | refine wIf (fun xx hx => ?_) | refine wReg (fun xx hx => ?_) | refine wRegF (fun xx hx => ?_) | (refine wRet ?_; (try simp only [thenQ, blockQ]); (try (subst hQQ; (try simp only [thenQ, blockQ]))); refine ends_by (fun xx hx => ?_))); have hc := trivial; (repeat' (simp only [hc, Nat.reduceBEq, go_sem, Nat.reduceAdd, Nat.reduceMul, Nat.reduceSub, Nat.reduceEqDiff, Nat.reduceLT, Nat.reduceLeDiff, Int.reduceEq, Int.reduceLT, Int.reduceLE, reduceIte, aresults, aresult, hp0, h5, h30, hnat, hdr, List.length_cons, show 1 + a.toNat ≤ t.length + 1 by omega, wj] at hx; (try ((first | rw [guardL_if] at hx | rw [guardF_if] at hx); split at hx <;> rename_i hc)))); all_goals (subst hx; first | (refine ⟨_, rfl, fun ht => ?_, fun ht => ?_⟩ <;> (try simp only [Bool.not_eq_true', Bool.not_eq_false', Bool.and_eq_true, Bool.and_eq_false_iff, Bool.or_eq_true, Bool.or_eq_false_iff, decide_eq_true_eq, decide_eq_false_iff_not, beq_iff_eq, bne_iff_ne, Bool.not_true, Bool.not_false, Bool.true_eq_false, Bool.false_eq_true, ne_eq, Decidable.not_not, inB_t, inB_f] at ht)) | (refine ⟨_, rfl, ?_⟩; (try simp only [tupOf])))) | refine wSkip ?_ | (refine wExit ?_; simp only [thenQ, blockQ, reduceIte, Nat.reduceEqDiff]) | refine wSeq ?_ | refine wBlock ?_ | (subst hQQ; (try simp only [thenQ, blockQ, reduceIte, Nat.reduceEqDiff])))
            refine ⟨_, Nat.sub_lt (by omega) Nat.one_pos, j + 1, .sl K.g 10 0 (ms.length + 1), ms ++ [decM (t.take a.toNat)], t.drop a.toNat, H1.g, K.g + 1, by omega, by simp only [upd_eq, Nat.reduceEqDiff, if_false, if_true, h0, h2, h3, h4, h5, h29, h30], by simp only [upd_eq, Nat.reduceEqDiff, if_false, if_true, h0, h2, h3, h4, h5, h29, h30], by simp only [upd_eq, Nat.reduceEqDiff, if_false, if_true, h0, h2, h3, h4, h5, h29, h30], by simp only [upd_eq, Nat.reduceEqDiff, if_false, if_true, h0, h2, h3, h4, h5, h29, h30], by simp only [upd_eq, Nat.reduceEqDiff, if_false, if_true, h0, h2, h3, h4, h5, h29, h30], by simp only [upd_eq, Nat.reduceEqDiff, if_false, if_true, h0, h2, h3, h4, h5, h29, h30], by simp only [upd_eq, Nat.reduceEqDiff, if_false, if_true, h0, h2, h3, h4, h5, h29, h30], ?_⟩
            have e3 : (ms ++ [decM (t.take a.toNat)]).length = ms.length + 1 := by simp
            refine ⟨hdec1, by simp only [Hp.set_h]; exact s0, by simp only [Hp.set_h]; exact s1, by simp only [Hp.set_h, if_true], ?_, byt_drop (fun z hz => hrb2 z (by simp [hz])) _, by simp; omega, by omega⟩
            rw [e3, ← flat_msgs]
            exact hacc'.keep (Nat.le_refl _) fun b hb _ => by rw [Hp.set_h, if_neg (by omega)]
      · have hj' : j = c.toNat := by omega
        have hltI : ¬ ((j : Nat) : Int) < c := by omega
        have ha := allM_some hc12 (hj' ▸ hdec)
        by_cases hr0 : rest.length = 0
        · have hcc : dmC (c :: r) = 0 := by unfold dmC; rw [if_neg hbig, ha]; simp [hr0]
          have hll : dmL (c :: r) = ms := by unfold dmL; rw [if_neg hbig, ha]; simp [hr0]
          rw [hcc, hll]
          repeat' (first | ((first | refine wSeqr (fun xx hx => ?_) | refine wSeqrF (fun xx hx => ?_) | refine wIf (fun xx hx => ?_) | refine wReg (fun xx hx => ?_) | refine wRegF (fun xx hx => ?_) | (refine wRet ?_; (try simp only [thenQ, blockQ]); (try (subst hQQ; (try simp only [thenQ, blockQ]))); refine ends_by (fun xx hx => ?_))); have hc := trivial; (repeat' (simp only [hc, Nat.reduceBEq, go_sem, Nat.reduceAdd, Nat.reduceMul, Nat.reduceSub, Nat.reduceEqDiff, Nat.reduceLT, Nat.reduceLeDiff, Int.reduceEq, Int.reduceLT, Int.reduceLE, reduceIte, aresults, aresult, hp0, h2, h4, h5, h29, h30, hltI, hb0, hb2, hone.1, hone.2] at hx; (try ((first | rw [guardL_if] at hx | rw [guardF_if] at hx); split at hx <;> rename_i hc)))); all_goals (subst hx; first | (refine ⟨_, rfl, fun ht => ?_, fun ht => ?_⟩ <;> (try simp only [Bool.not_eq_true', Bool.not_eq_false', Bool.and_eq_true, Bool.and_eq_false_iff, Bool.or_eq_true, Bool.or_eq_false_iff, decide_eq_true_eq, decide_eq_false_iff_not, beq_iff_eq, bne_iff_ne, Bool.not_true, Bool.not_false, Bool.true_eq_false, Bool.false_eq_true, ne_eq, Decidable.not_not, inB_t, inB_f] at ht)) | (refine ⟨_, rfl, ?_⟩; (try simp only [tupOf])))) | refine wSkip ?_ | (refine wExit ?_; simp only [thenQ, blockQ, reduceIte, Nat.reduceEqDiff]) | refine wSeq ?_ | refine wBlock ?_ | (subst hQQ; (try simp only [thenQ, blockQ, reduceIte, Nat.reduceEqDiff])))
          all_goals first
            | (exfalso; (try simp only [Bool.not_eq_true', Bool.not_eq_false', Bool.and_eq_true, Bool.and_eq_false_iff, Bool.or_eq_true, Bool.or_eq_false_iff, decide_eq_true_eq, decide_eq_false_iff_not, beq_iff_eq, bne_iff_ne, Bool.not_true, Bool.not_false, Bool.true_eq_false, Bool.false_eq_true, ne_eq, Decidable.not_not, inB_t, inB_f] at *); omega)
            | skip
          have hacc2 : LAcc (H.set 0 [.v (.int .i64 0), x]) x 10 3 hi gg ((ms.map encMessage).flatten) ms.length := hacc.keep (Nat.le_refl _) fun b hb _ => by rw [Hp.set_h, if_neg (by omega)]
          refine gO_two 0 (hacc2.gives (rows := ms.map encMessage) rfl (k := 9) (by omega) (by simp) (by omega) (fun c hc => ?_) (fun c hc => ?_))
          · obtain ⟨k, -, rfl⟩ := List.mem_map.1 hc; rfl
          · obtain ⟨k, -, rfl⟩ := List.mem_map.1 hc; exact gE_Message 7 k
        · have hcc : dmC (c :: r) = 5 := by unfold dmC; rw [if_neg hbig, ha]; simp [hr0]
          have hll : dmL (c :: r) = [] := by unfold dmL; rw [if_neg hbig, ha]; simp [hr0]
          rw [hcc, hll]
          repeat' (first | ((first | refine wSeqr (fun xx hx => ?_) | refine wSeqrF (fun xx hx => ?_) | refine wIf (fun xx hx => ?_) | refine wReg (fun xx hx => ?_) | refine wRegF (fun xx hx => ?_) | (refine wRet ?_; (try simp only [thenQ, blockQ]); (try (subst hQQ; (try simp only [thenQ, blockQ]))); refine ends_by (fun xx hx => ?_))); have hc := trivial; (repeat' (simp only [hc, Nat.reduceBEq, go_sem, Nat.reduceAdd, Nat.reduceMul, Nat.reduceSub, Nat.reduceEqDiff, Nat.reduceLT, Nat.reduceLeDiff, Int.reduceEq, Int.reduceLT, Int.reduceLE, reduceIte, aresults, aresult, hp0, h2, h3, h5, h29, h30, hltI, hb0, hb1] at hx; (try ((first | rw [guardL_if] at hx | rw [guardF_if] at hx); split at hx <;> rename_i hc)))); all_goals (subst hx; first | (refine ⟨_, rfl, fun ht => ?_, fun ht => ?_⟩ <;> (try simp only [Bool.not_eq_true', Bool.not_eq_false', Bool.and_eq_true, Bool.and_eq_false_iff, Bool.or_eq_true, Bool.or_eq_false_iff, decide_eq_true_eq, decide_eq_false_iff_not, beq_iff_eq, bne_iff_ne, Bool.not_true, Bool.not_false, Bool.true_eq_false, Bool.false_eq_true, ne_eq, Decidable.not_not, inB_t, inB_f] at ht)) | (refine ⟨_, rfl, ?_⟩; (try simp only [tupOf])))) | refine wSkip ?_ | (refine wExit ?_; simp only [thenQ, blockQ, reduceIte, Nat.reduceEqDiff]) | refine wSeq ?_ | refine wBlock ?_ | (subst hQQ; (try simp only [thenQ, blockQ, reduceIte, Nat.reduceEqDiff])))
          all_goals first
            | (exfalso; (try simp only [Bool.not_eq_true', Bool.not_eq_false', Bool.and_eq_true, Bool.and_eq_false_iff, Bool.or_eq_true, Bool.or_eq_false_iff, decide_eq_true_eq, decide_eq_false_iff_not, beq_iff_eq, bne_iff_ne, Bool.not_true, Bool.not_false, Bool.true_eq_false, Bool.false_eq_true, ne_eq, Decidable.not_not, inB_t, inB_f] at *); omega)
            | skip
          all_goals exact gO_code rfl rfl
    · refine ⟨0, .v (.slice none 0 0), [], r, 3, 3, by omega, rfl, rfl, rfl, rfl, rfl, rfl, rfl, ?_⟩
      exact ⟨rfl, rfl, rfl, rfl, LAcc.nil (by simp), hrb, by omega, rfl⟩
theorem p_iDecodeMessages (l : List Int) (hb : Eng.Bytes l) (hl : l.length ≤ 1048576) : pure Try.prog cfg0 7 Try.f7 [bytesL l] = some (.agg [.v (.int .i64 (dmC l)), .lst false ((dmL l).map encMessage)], true) := (pq_iDecodeMessages l hb hl).1
theorem c_iDecodeMessages (l : List Int) (hb : Eng.Bytes l) (hl : l.length ≤ 1048576) : ∀ H, call Try.prog cfg0 0 7 [bytesL l] H = some (.agg [.v (.int .i64 (dmC l)), .lst false ((dmL l).map encMessage)], H) :=
  call_fz Try.func7 rfl ok_iDecodeMessages rfl (by simp only [fz_cons, fz_nil, go_sem, and_self]) (pq_iDecodeMessages l hb hl).1
theorem o_iDecodeMessages (l : List Int) (hb : Eng.Bytes l) (hl : l.length ≤ 1048576) : ∀ H, call Try.prog cfg0 1 7 [bytesL l] H = mat depthD (.agg [.v (.int .i64 (dmC l)), .lst false ((dmL l).map encMessage)]) H := fun H =>
  call_ofO Try.func7 rfl ok_iDecodeMessages rfl (mapM_self fun x hx => ((show ∀ x ∈ ([bytesL l] : List AV), Fz depthD x by simp only [fz_cons, fz_nil, go_sem, and_self]) x hx).1 H) (pq_iDecodeMessages l hb hl).2

end
end Go.Proofs.Ytmpkcilehideiaa
