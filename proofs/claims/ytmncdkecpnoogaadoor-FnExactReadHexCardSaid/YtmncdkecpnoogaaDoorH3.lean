/- Contracts: data read from its text, both sides. -/
import Derived.Test.YtmncdkecpnoogaaDoorH2
namespace Go.Proofs.YtmncdkecpnoogaaDoor
open Go Go.RowKit Go.Proofs.YtmncdkecpnoogaaDoor.Eng
set_option linter.unusedSimpArgs false
set_option linter.unusedVariables false
set_option maxRecDepth 100000
set_option maxHeartbeats 1000000
noncomputable section
def hexRd : List UInt8 → Option (List Int)
  | [] => some []
  | [_] => none
  | a :: b :: r => if 0 ≤ nibZ (a.toNat : Int) ∧ 0 ≤ nibZ (b.toNat : Int) then (hexRd r).map fun t => (16 * nibZ (a.toNat : Int) + nibZ (b.toNat : Int)) :: t else none
theorem hexRd_odd : ∀ (n : Nat) (l : List UInt8), l.length = 2 * n + 1 → hexRd l = none := by
  intro n
  induction n with
  | zero =>
    intro l h
    obtain ⟨a, rfl⟩ := List.length_eq_one_iff.1 h
    rfl
  | succ n ih =>
    intro l h
    match l, h with
    | a :: b :: r, h =>
      simp only [hexRd]
      rw [ih r (by simp only [List.length_cons] at h; omega)]
      split <;> rfl
theorem nibZ_b (c : UInt8) : nibZ (c.toNat : Int) ≤ 15 ∧ -1 ≤ nibZ (c.toNat : Int) := by
  unfold nibZ; split
  · omega
  · split <;> omega
/-- How far a reading has come: o is read of the first 2 * j signs. -/
def Rd (w : List UInt8) (j : Nat) (o : List Int) : Prop := o.length = j ∧ Bytes o ∧ 2 * j ≤ w.length ∧ hexRd w = (hexRd (w.drop (2 * j))).map (o ++ ·)
theorem Rd.zero (w : List UInt8) : Rd w 0 [] := ⟨rfl, fun z h => by simp at h, by omega, by simp⟩
theorem two_at {w : List UInt8} {j : Nat} (h : 2 * j + 2 ≤ w.length) : ∃ a b, w[2 * j]? = some a ∧ w[2 * j + 1]? = some b ∧ w.drop (2 * j) = a :: b :: w.drop (2 * (j + 1)) := by
  refine ⟨w[2 * j], w[2 * j + 1], by simp, by simp, ?_⟩
  rw [List.drop_eq_getElem_cons (by omega), List.drop_eq_getElem_cons (show 2 * j + 1 < w.length by omega)]
  rfl
theorem Rd.next {w : List UInt8} {j : Nat} {o : List Int} {a b : UInt8} (h : Rd w j o) (h2 : 2 * j + 2 ≤ w.length) (hd : w.drop (2 * j) = a :: b :: w.drop (2 * (j + 1))) (ha : 0 ≤ nibZ (a.toNat : Int)) (hb : 0 ≤ nibZ (b.toNat : Int)) :
    Rd w (j + 1) (o ++ [16 * nibZ (a.toNat : Int) + nibZ (b.toNat : Int)]) := by
  obtain ⟨h1, h2', h3, h4⟩ := h
  have ba := nibZ_b a
  have bb := nibZ_b b
  refine ⟨by simp [h1], fun z hz => ?_, by omega, ?_⟩
  · rcases List.mem_append.1 hz with hz | hz
    · exact h2' z hz
    · simp at hz; omega
  · rw [h4, hd, hexRd, if_pos ⟨ha, hb⟩, Option.map_map]
    congr 1
    funext t; simp
theorem Rd.bad {w : List UInt8} {j : Nat} {o : List Int} {a b : UInt8} (h : Rd w j o) (hd : w.drop (2 * j) = a :: b :: w.drop (2 * (j + 1))) (hab : ¬ (0 ≤ nibZ (a.toNat : Int) ∧ 0 ≤ nibZ (b.toNat : Int))) : hexRd w = none := by
  rw [h.2.2.2, hd, hexRd, if_neg hab]; rfl
theorem Rd.fin {w : List UInt8} {j : Nat} {o : List Int} (h : Rd w j o) (he : w.length = 2 * j) : hexRd w = some o := by
  rw [h.2.2.2, List.drop_of_length_le (by omega)]; simp [hexRd]
def rdRes (w : List UInt8) : AV := match hexRd w with
  | some l => .tup [bytesL l, .v (.bool true)]
  | none => .tup [.lst false [], .v (.bool false)]
theorem own_tup2 {y : Value} {x : AV} {H : Hp} (h : ∃ fp, fpt H 11 x = some fp ∧ fp.Nodup) : Own1 H (.tup [x, .v y]) := by
  obtain ⟨fp, h1, h2⟩ := h
  refine ⟨fp, ?_, h2⟩
  show ([x, AV.v y].mapM (fpt H 11)).map List.flatten = some fp
  have hm : [x, AV.v y].mapM (fpt H 11) = some [fp, []] := mapM_cons_some.2 ⟨_, _, h1, mapM_cons_some.2 ⟨_, _, rfl, rfl, rfl⟩, rfl⟩
  rw [hm]; simp
theorem fpt_racc {H : Hp} {x : AV} {n : Nat} {o : List Int} (h : RAcc H x 1 (o.map cell) n) : ∃ fp, fpt H 11 x = some fp ∧ fp.Nodup := by
  rcases h.2 with ⟨-, rfl | rfl⟩ | ⟨b, -, rfl, hb⟩
  · exact ⟨[], rfl, List.nodup_nil⟩
  · exact ⟨[], rfl, List.nodup_nil⟩
  · obtain ⟨fp, h1, h2, -⟩ := fpt_flat (d := 10) hb (sz := 1) (o := 0) (n := n) (by simp [cell, fpt_int])
    exact ⟨fp, h1, h2⟩
theorem gives_pair {H : Hp} {x : AV} {n : Nat} {o : List Int} {b : Bool} (h : RAcc H x 1 (o.map cell) n) (hn : n = o.length) : GivesO (.tup [bytesL o, .v (.bool b)]) (.tup [x, .v (.bool b)]) H := by
  refine ⟨⟨?_, ?_⟩, own_tup2 (fpt_racc h)⟩
  · have h1 := deep_racc1 (d := 10) h hn (fun q => Fz.int _ _ _)
    show ([x, AV.v (.bool b)].mapM (deep H 11)).map AV.tup = _
    rw [mapM_c h1 (mapM_c (show deep H 11 (.v (.bool b)) = some (.v (.bool b)) from rfl) mapM_n)]; rfl
  · have h1 := clean_racc1 (d := 10) h (fun q => rfl)
    show [x, AV.v (.bool b)].all (clean H 11) = true
    simp only [List.all_cons, List.all_nil, Bool.and_true, h1, Bool.true_and]
    rfl
theorem gives_pair0 {H : Hp} : GivesO (.tup [.lst false [], .v (.bool false)]) (.tup [.v (.slice none 0 0), .v (.bool false)]) H := ⟨⟨rfl, rfl⟩, ⟨[], rfl, List.nodup_nil⟩⟩
theorem ok_sl14Read : fnOk Tryd.prog cfg0 68 Tryd.f68 = true := by kernel_rfl
theorem pq_sl14Read (z : ByteArray) (hz : z.size ≤ 1048576) : pure Tryd.prog cfg0 68 Tryd.f68 [.v (.string z)] = some (rdRes z.data.toList, true) ∧ owned Tryd.prog cfg0 68 Tryd.f68 [.v (.string z)] = some (rdRes z.data.toList) := by
  refine both_wp (rs := [.tmp 2, .tmp 3]) rfl rfl ?_
  have hp0 : ∀ b, cfg0.pol 68 b = 0 := fun b => rfl
  have hsz := size_toList z
  generalize hw : z.data.toList = w at hsz ⊢
  have hwl : w.length ≤ 1048576 := by omega
  have e2 : Int.tmod (z.size : Int) 2 = ((w.length % 2 : Nat) : Int) := by rw [Int.tmod_eq_emod_of_nonneg (by omega)]; omega
  by_cases hodd : w.length % 2 = 0
  rotate_left
  · have hno : rdRes w = .tup [.lst false [], .v (.bool false)] := by unfold rdRes; rw [hexRd_odd (w.length / 2) w (by omega)]
    have e2' : ¬ ((w.length % 2 : Nat) : Int) = 0 := by omega
    rw [hno]
    repeat' (first | ((first | refine wSeqr (fun xx hx => ?_) | refine wIf (fun xx hx => ?_) | refine wReg (fun xx hx => ?_) | (refine wRet ?_; (try simp only [thenQ, blockQ]); refine ends_by (fun xx hx => ?_))); have hc := trivial; (repeat' (simp only [hc, go_sem, Nat.reduceAdd, Nat.reduceMul, Nat.reduceSub, Nat.reduceEqDiff, Nat.reduceLT, Nat.reduceLeDiff, Int.reduceEq, Int.reduceLT, Int.reduceLE, reduceIte, aresults, aresult, hp0, e2, e2'] at hx; (try (rw [guardL_if] at hx; split at hx <;> rename_i hc)))); all_goals (subst hx; first | (refine ⟨_, rfl, fun ht => ?_, fun ht => ?_⟩ <;> (try simp only [Bool.not_eq_true', Bool.not_eq_false', Bool.and_eq_true, Bool.and_eq_false_iff, Bool.or_eq_true, Bool.or_eq_false_iff, decide_eq_true_eq, decide_eq_false_iff_not, beq_iff_eq, bne_iff_ne, Bool.not_true, Bool.not_false, Bool.true_eq_false, Bool.false_eq_true, ne_eq, Decidable.not_not, inB_t, inB_f] at ht)) | (refine ⟨_, rfl, ?_⟩; (try simp only [tupOf])))) | refine wSkip ?_ | (refine wExit ?_; simp only [thenQ, blockQ, reduceIte, Nat.reduceEqDiff]) | refine wSeq ?_ | refine wBlock ?_)
    all_goals exact gives_pair0
  have e2' : ((w.length % 2 : Nat) : Int) = 0 := by omega
  repeat' (first | ((first | refine wSeqr (fun xx hx => ?_) | refine wIf (fun xx hx => ?_) | refine wReg (fun xx hx => ?_) | (refine wRet ?_; (try simp only [thenQ, blockQ]); refine ends_by (fun xx hx => ?_))); have hc := trivial; (repeat' (simp only [hc, go_sem, Nat.reduceAdd, Nat.reduceMul, Nat.reduceSub, Nat.reduceEqDiff, Nat.reduceLT, Nat.reduceLeDiff, Int.reduceEq, Int.reduceLT, Int.reduceLE, reduceIte, aresults, aresult, hp0, e2, e2'] at hx; (try (rw [guardL_if] at hx; split at hx <;> rename_i hc)))); all_goals (subst hx; first | (refine ⟨_, rfl, fun ht => ?_, fun ht => ?_⟩ <;> (try simp only [Bool.not_eq_true', Bool.not_eq_false', Bool.and_eq_true, Bool.and_eq_false_iff, Bool.or_eq_true, Bool.or_eq_false_iff, decide_eq_true_eq, decide_eq_false_iff_not, beq_iff_eq, bne_iff_ne, Bool.not_true, Bool.not_false, Bool.true_eq_false, Bool.false_eq_true, ne_eq, Decidable.not_not, inB_t, inB_f] at ht)) | (refine ⟨_, rfl, ?_⟩; (try simp only [tupOf])))) | refine wSkip ?_ | (refine wExit ?_; simp only [thenQ, blockQ, reduceIte, Nat.reduceEqDiff]) | refine wSeq ?_ | refine wBlock ?_)
  all_goals try (exfalso; (try simp only [Bool.not_eq_true', Bool.not_eq_false', Bool.and_eq_true, Bool.and_eq_false_iff, Bool.or_eq_true, Bool.or_eq_false_iff, decide_eq_true_eq, decide_eq_false_iff_not, beq_iff_eq, bne_iff_ne, Bool.not_true, Bool.not_false, Bool.true_eq_false, Bool.false_eq_true, ne_eq, Decidable.not_not, inB_t, inB_f] at *); first | omega | exact absurd trivial (by assumption))
  refine wLoop (fun k s => ∃ (j : Nat) (o : List Int), j + k = w.length / 2 ∧ s.1 0 = .v (.string z) ∧ s.1 5 = .v (.int .i64 ((2 * j : Nat) : Int)) ∧ s.1 2 = .v (.slice none 0 0) ∧ (RAcc s.2 (s.1 4) 1 (o.map cell) j) ∧ (Rd w j o)) (fun k s hI => ?_) (w.length / 2) _ ?_
  · obtain ⟨e, H⟩ := s
    obtain ⟨j, o, hj, h0, h5, h2, hacc, hrd⟩ := hI
    simp only at h0 h5 h2 hacc hrd
    by_cases hlt : 2 * j < w.length
    · obtain ⟨a, b, ga, gb, hd⟩ := two_at (w := w) (j := j) (by omega)
      have ga' : z.data.toList[2 * j]? = some a := by rw [hw]; exact ga
      have gb' : z.data.toList[2 * j + 1]? = some b := by rw [hw]; exact gb
      have hltI : ((2 * j : Nat) : Int) < (z.size : Int) := by omega
      have w1 : IntKind.wrap .i64 (((2 * j : Nat) : Int) + 1) = ((2 * j + 1 : Nat) : Int) := by rw [wrap_i64 (by omega) (by omega)]; omega
      have w2 : IntKind.wrap .i64 (((2 * j : Nat) : Int) + 2) = ((2 * (j + 1) : Nat) : Int) := by rw [wrap_i64 (by omega) (by omega)]; omega
      have ba := nibZ_b a
      have bb := nibZ_b b
      generalize hna : nibZ (a.toNat : Int) = na at *
      generalize hnb : nibZ (b.toNat : Int) = nb at *
      have ca := c_sl14Nibble a
      have cb := c_sl14Nibble b
      rw [hna] at ca
      rw [hnb] at cb
      by_cases hok : 0 ≤ na ∧ 0 ≤ nb
      · have n1 : ¬ na < 0 := by omega
        have n2 : ¬ nb < 0 := by omega
        have w3 : IntKind.wrap .i64 (16 * na) = 16 * na := wrap_i64 (by omega) (by omega)
        have w4 : IntKind.wrap .i64 (16 * na + nb) = 16 * na + nb := wrap_i64 (by omega) (by omega)
        have w5 : IntKind.wrap .u8 (16 * na + nb) = 16 * na + nb := wrap_u8 (by omega) (by omega)
        repeat' (first | ((first | refine wSeqr (fun xx hx => ?_) | refine wIf (fun xx hx => ?_) | refine wReg (fun xx hx => ?_) | (refine wRet ?_; (try simp only [thenQ, blockQ]); refine ends_by (fun xx hx => ?_))); have hc := trivial; (repeat' (simp only [hc, go_sem, Nat.reduceAdd, Nat.reduceMul, Nat.reduceSub, Nat.reduceEqDiff, Nat.reduceLT, Nat.reduceLeDiff, Int.reduceEq, Int.reduceLT, Int.reduceLE, reduceIte, aresults, aresult, hp0, h0, h5, hltI, ga', gb', w1, ca, cb, n1, n2, conv_ii, w3, w4, w5] at hx; (try (rw [guardL_if] at hx; split at hx <;> rename_i hc)))); all_goals (subst hx; first | (refine ⟨_, rfl, fun ht => ?_, fun ht => ?_⟩ <;> (try simp only [Bool.not_eq_true', Bool.not_eq_false', Bool.and_eq_true, Bool.and_eq_false_iff, Bool.or_eq_true, Bool.or_eq_false_iff, decide_eq_true_eq, decide_eq_false_iff_not, beq_iff_eq, bne_iff_ne, Bool.not_true, Bool.not_false, Bool.true_eq_false, Bool.false_eq_true, ne_eq, Decidable.not_not, inB_t, inB_f] at ht)) | (refine ⟨_, rfl, ?_⟩; (try simp only [tupOf])))) | refine wSkip ?_ | (refine wExit ?_; simp only [thenQ, blockQ, reduceIte, Nat.reduceEqDiff]) | refine wSeq ?_ | refine wBlock ?_)
        refine wReg (fun xx hx => ?_); have hc := trivial; (repeat' (simp only [hc, go_sem, Nat.reduceAdd, Nat.reduceMul, Nat.reduceSub, Nat.reduceEqDiff, Nat.reduceLT, Nat.reduceLeDiff, Int.reduceEq, Int.reduceLT, Int.reduceLE, reduceIte, aresults, aresult, hp0, conv_ii, w3, w4, w5] at hx; (try (rw [guardL_if] at hx; split at hx <;> rename_i hc)))); generalize hq : aappend Tryd.prog _ _ _ _ = q at hx
        obtain ⟨x', H', rfl, hacc', -, -⟩ := app_rows hq el47 zero5 by5 int47 (sz := 1) rfl (by omega) hacc (m := 1) (ys := [.v (.int .u8 (16 * na + nb))]) rfl rfl (by simp) (by omega) (by omega)
        have hc := trivial; (repeat' (simp only [hc, go_sem, Nat.reduceAdd, Nat.reduceMul, Nat.reduceSub, Nat.reduceEqDiff, Nat.reduceLT, Nat.reduceLeDiff, Int.reduceEq, Int.reduceLT, Int.reduceLE, reduceIte, aresults, aresult, hp0] at hx; (try (rw [guardL_if] at hx; split at hx <;> rename_i hc)))); all_goals (subst hx; refine ⟨_, rfl, ?_⟩)
        repeat' (first | ((first | refine wSeqr (fun xx hx => ?_) | refine wIf (fun xx hx => ?_) | refine wReg (fun xx hx => ?_) | (refine wRet ?_; (try simp only [thenQ, blockQ]); refine ends_by (fun xx hx => ?_))); have hc := trivial; (repeat' (simp only [hc, go_sem, Nat.reduceAdd, Nat.reduceMul, Nat.reduceSub, Nat.reduceEqDiff, Nat.reduceLT, Nat.reduceLeDiff, Int.reduceEq, Int.reduceLT, Int.reduceLE, reduceIte, aresults, aresult, hp0, h5, w2] at hx; (try (rw [guardL_if] at hx; split at hx <;> rename_i hc)))); all_goals (subst hx; first | (refine ⟨_, rfl, fun ht => ?_, fun ht => ?_⟩ <;> (try simp only [Bool.not_eq_true', Bool.not_eq_false', Bool.and_eq_true, Bool.and_eq_false_iff, Bool.or_eq_true, Bool.or_eq_false_iff, decide_eq_true_eq, decide_eq_false_iff_not, beq_iff_eq, bne_iff_ne, Bool.not_true, Bool.not_false, Bool.true_eq_false, Bool.false_eq_true, ne_eq, Decidable.not_not, inB_t, inB_f] at ht)) | (refine ⟨_, rfl, ?_⟩; (try simp only [tupOf])))) | refine wSkip ?_ | (refine wExit ?_; simp only [thenQ, blockQ, reduceIte, Nat.reduceEqDiff]) | refine wSeq ?_ | refine wBlock ?_)
        refine ⟨_, Nat.sub_lt (by omega) Nat.one_pos, j + 1, o ++ [16 * na + nb], by omega, by simp only [upd_eq, Nat.reduceEqDiff, if_false, if_true, h0, h5, h2], by simp only [upd_eq, Nat.reduceEqDiff, if_false, if_true, h0, h5, h2], by simp only [upd_eq, Nat.reduceEqDiff, if_false, if_true, h0, h5, h2], ?_⟩
        refine ⟨?_, ?_⟩
        · simp only [upd_eq, Nat.reduceEqDiff, if_false, if_true]
          simpa [cell] using hacc'
        · have := hrd.next (by omega) hd (by rw [hna]; exact hok.1) (by rw [hnb]; exact hok.2)
          rw [hna, hnb] at this
          exact this
      · have hno : rdRes w = .tup [.lst false [], .v (.bool false)] := by unfold rdRes; rw [hrd.bad hd (by rw [hna, hnb]; exact hok)]
        rw [hno]
        repeat' (first | ((first | refine wSeqr (fun xx hx => ?_) | refine wIf (fun xx hx => ?_) | refine wReg (fun xx hx => ?_) | (refine wRet ?_; (try simp only [thenQ, blockQ]); refine ends_by (fun xx hx => ?_))); have hc := trivial; (repeat' (simp only [hc, go_sem, Nat.reduceAdd, Nat.reduceMul, Nat.reduceSub, Nat.reduceEqDiff, Nat.reduceLT, Nat.reduceLeDiff, Int.reduceEq, Int.reduceLT, Int.reduceLE, reduceIte, aresults, aresult, hp0, h0, h5, h2, hltI, ga', gb', w1, ca, cb] at hx; (try (rw [guardL_if] at hx; split at hx <;> rename_i hc)))); all_goals (subst hx; first | (refine ⟨_, rfl, fun ht => ?_, fun ht => ?_⟩ <;> (try simp only [Bool.not_eq_true', Bool.not_eq_false', Bool.and_eq_true, Bool.and_eq_false_iff, Bool.or_eq_true, Bool.or_eq_false_iff, decide_eq_true_eq, decide_eq_false_iff_not, beq_iff_eq, bne_iff_ne, Bool.not_true, Bool.not_false, Bool.true_eq_false, Bool.false_eq_true, ne_eq, Decidable.not_not, inB_t, inB_f] at ht)) | (refine ⟨_, rfl, ?_⟩; (try simp only [tupOf])))) | refine wSkip ?_ | (refine wExit ?_; simp only [thenQ, blockQ, reduceIte, Nat.reduceEqDiff]) | refine wSeq ?_ | refine wBlock ?_)
        all_goals first
          | exact gives_pair0
          | (exfalso; (try simp only [Bool.not_eq_true', Bool.not_eq_false', Bool.and_eq_true, Bool.and_eq_false_iff, Bool.or_eq_true, Bool.or_eq_false_iff, decide_eq_true_eq, decide_eq_false_iff_not, beq_iff_eq, bne_iff_ne, Bool.not_true, Bool.not_false, Bool.true_eq_false, Bool.false_eq_true, ne_eq, Decidable.not_not, inB_t, inB_f] at *); omega)
    · have hltI : ¬ ((2 * j : Nat) : Int) < (z.size : Int) := by omega
      have hfin := hrd.fin (by have := hrd.2.2.1; omega)
      have hyes : rdRes w = .tup [bytesL o, .v (.bool true)] := by unfold rdRes; rw [hfin]
      rw [hyes]
      repeat' (first | ((first | refine wSeqr (fun xx hx => ?_) | refine wIf (fun xx hx => ?_) | refine wReg (fun xx hx => ?_) | (refine wRet ?_; (try simp only [thenQ, blockQ]); refine ends_by (fun xx hx => ?_))); have hc := trivial; (repeat' (simp only [hc, go_sem, Nat.reduceAdd, Nat.reduceMul, Nat.reduceSub, Nat.reduceEqDiff, Nat.reduceLT, Nat.reduceLeDiff, Int.reduceEq, Int.reduceLT, Int.reduceLE, reduceIte, aresults, aresult, hp0, h0, h5, hltI] at hx; (try (rw [guardL_if] at hx; split at hx <;> rename_i hc)))); all_goals (subst hx; first | (refine ⟨_, rfl, fun ht => ?_, fun ht => ?_⟩ <;> (try simp only [Bool.not_eq_true', Bool.not_eq_false', Bool.and_eq_true, Bool.and_eq_false_iff, Bool.or_eq_true, Bool.or_eq_false_iff, decide_eq_true_eq, decide_eq_false_iff_not, beq_iff_eq, bne_iff_ne, Bool.not_true, Bool.not_false, Bool.true_eq_false, Bool.false_eq_true, ne_eq, Decidable.not_not, inB_t, inB_f] at ht)) | (refine ⟨_, rfl, ?_⟩; (try simp only [tupOf])))) | refine wSkip ?_ | (refine wExit ?_; simp only [thenQ, blockQ, reduceIte, Nat.reduceEqDiff]) | refine wSeq ?_ | refine wBlock ?_)
      all_goals exact gives_pair hacc hrd.1.symm
  · refine ⟨0, [], by omega, rfl, rfl, rfl, ?_⟩
    exact ⟨RAcc.lst, Rd.zero w⟩
theorem p_sl14Read (z : ByteArray) (hz : z.size ≤ 1048576) : pure Tryd.prog cfg0 68 Tryd.f68 [.v (.string z)] = some (rdRes z.data.toList, true) := (pq_sl14Read z hz).1
theorem c_sl14Read (z : ByteArray) (hz : z.size ≤ 1048576) : ∀ H, call Tryd.prog cfg0 0 68 [.v (.string z)] H = some (rdRes z.data.toList, H) :=
  call_fz Tryd.func68 rfl ok_sl14Read rfl (by simp only [fz_cons, fz_nil, go_sem, and_self]) (pq_sl14Read z hz).1
theorem o_sl14Read (z : ByteArray) (hz : z.size ≤ 1048576) : ∀ H, call Tryd.prog cfg0 1 68 [.v (.string z)] H = mat depthD (rdRes z.data.toList) H := fun H =>
  call_ofO Tryd.func68 rfl ok_sl14Read rfl (mapM_self fun x hx => ((show ∀ x ∈ ([.v (.string z)] : List AV), Fz depthD x by simp only [fz_cons, fz_nil, go_sem, and_self]) x hx).1 H) (pq_sl14Read z hz).2

end
end Go.Proofs.YtmncdkecpnoogaaDoor
