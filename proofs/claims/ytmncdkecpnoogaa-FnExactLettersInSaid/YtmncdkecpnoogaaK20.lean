/- Contracts: which nodes have stopped, by the program. -/
import Derived.Test.YtmncdkecpnoogaaB1
namespace Go.Proofs.Ytmncdkecpnoogaa
open Go Go.RowKit Go.Proofs.Ytmncdkecpnoogaa.Eng
set_option linter.unusedSimpArgs false
set_option linter.unusedVariables false
set_option maxRecDepth 100000
set_option maxHeartbeats 4000000
noncomputable section
/-- The places of the first j elements at which p holds. -/
def idxTo {α : Type} (p : α → Bool) (l : List α) (j : Nat) : List Int := ((List.range j).filter fun i => (l[i]?).any p).map fun (i : Nat) => (i : Int)
theorem idxTo_t {α : Type} {p : α → Bool} {l : List α} {j : Nat} {k : α} (h : l[j]? = some k) (hp : p k = true) : idxTo p l (j + 1) = idxTo p l j ++ [(j : Int)] := by
  simp [idxTo, List.range_succ, List.filter_append, h, hp]
theorem idxTo_f {α : Type} {p : α → Bool} {l : List α} {j : Nat} {k : α} (h : l[j]? = some k) (hp : p k = false) : idxTo p l (j + 1) = idxTo p l j := by
  simp [idxTo, List.range_succ, List.filter_append, h, hp]
theorem idxTo_len {α : Type} (p : α → Bool) (l : List α) (j : Nat) : (idxTo p l j).length ≤ j := by
  unfold idxTo
  rw [List.length_map]
  exact Nat.le_trans (List.length_filter_le _ _) (by simp)
def resC (n m : Nat) : Int := if m < n then 2 else 0
def resL {α : Type} (p : α → Bool) (l : List α) (m : Nat) : List Int := if m < l.length then [] else idxTo p l l.length
theorem resL_len {α : Type} (p : α → Bool) (l : List α) (m : Nat) : (resL p l m).length ≤ m := by
  unfold resL
  split
  · simp
  · exact Nat.le_trans (idxTo_len _ _ _) (by omega)
theorem gives_ints {H : Hp} {x : AV} {c : Int} {l : List Int} {n : Nat} (h : RAcc H x 1 (l.map icell) n) (hn : n = l.length) : GivesO (.agg [.v (.int .i64 c), i64L l]) (.agg [.v (.int .i64 c), x]) H := by
  have h1 : deep H 11 x = some (i64L l) := deep_racc1 (d := 10) h hn (fun z => Fz.int _ _ _)
  have h2 : clean H 11 x = true := clean_racc1 (d := 10) h (fun z => rfl)
  have h3 : ∃ fp, fpt H 11 x = some fp ∧ fp.Nodup := by
    rcases h.2 with ⟨-, rfl | rfl⟩ | ⟨b, -, rfl, hb⟩
    · exact ⟨[], rfl, List.nodup_nil⟩
    · exact ⟨[], rfl, List.nodup_nil⟩
    · obtain ⟨fp, a1, a2, -⟩ := fpt_flat (d := 10) hb (sz := 1) (o := 0) (n := n) (by simp [icell, fpt_int])
      exact ⟨fp, a1, a2⟩
  refine ⟨⟨?_, ?_⟩, own_agg2 h3⟩
  · show ([AV.v (.int .i64 c), x].mapM (deep H 11)).map AV.agg = _
    rw [mapM_c (show deep H 11 (.v (.int .i64 c)) = some (.v (.int .i64 c)) from rfl) (mapM_c h1 mapM_n)]; rfl
  · show [AV.v (.int .i64 c), x].all (clean H 11) = true
    simp only [List.all_cons, List.all_nil, Bool.and_true, h2]
    rfl
def stop (n : NodeStateM) : Bool := n.Stopped
theorem ok_iStoppedIn : fnOk Try.prog cfg0 47 Try.f47 = true := by kernel_rfl
theorem pq_iStoppedIn (t : StateM) (hk : t.ok 1048576) : pure Try.prog cfg0 47 Try.f47 [.agg [.lst false (t.Nodes.map encNodeState), .lst false (t.Flights.map encFlight), i64L t.Codes]] = some (.agg [.v (.int .i64 (resC t.Nodes.length 4)), i64L (resL stop t.Nodes 4)], true) ∧ owned Try.prog cfg0 47 Try.f47 [.agg [.lst false (t.Nodes.map encNodeState), .lst false (t.Flights.map encFlight), i64L t.Codes]] = some (.agg [.v (.int .i64 (resC t.Nodes.length 4)), i64L (resL stop t.Nodes 4)]) := by
  refine both_wp (rs := [.cell 2 66]) rfl rfl ?_
  have hp0 : ∀ b, cfg0.pol 47 b = 0 := fun b => rfl
  have hl0 := hk.1.1
  by_cases hbig : 4 < t.Nodes.length
  · have hcc : resC t.Nodes.length 4 = 2 := if_pos hbig
    have hll : resL stop t.Nodes 4 = [] := if_pos hbig
    repeat' (first | ((first | refine wSeqr (fun xx hx => ?_) | refine wIf (fun xx hx => ?_) | refine wReg (fun xx hx => ?_) | (refine wRet ?_; (try simp only [thenQ, blockQ]); refine ends_by (fun xx hx => ?_))); have hc := trivial; (repeat' (simp only [hc, go_sem, Nat.reduceAdd, Nat.reduceMul, Nat.reduceSub, Nat.reduceEqDiff, Nat.reduceLT, Nat.reduceLeDiff, Int.reduceEq, Int.reduceLT, Int.reduceLE, reduceIte, aresults, aresult, List.length_map, hp0] at hx; (try (rw [guardL_if] at hx; split at hx <;> rename_i hc)))); all_goals (subst hx; first | (refine ⟨_, rfl, fun ht => ?_, fun ht => ?_⟩ <;> (try simp only [Bool.not_eq_true', Bool.not_eq_false', Bool.and_eq_true, Bool.and_eq_false_iff, Bool.or_eq_true, Bool.or_eq_false_iff, decide_eq_true_eq, decide_eq_false_iff_not, beq_iff_eq, bne_iff_ne, Bool.not_true, Bool.not_false, Bool.true_eq_false, Bool.false_eq_true, ne_eq, Decidable.not_not, inB_t, inB_f] at ht)) | (refine ⟨_, rfl, ?_⟩; (try simp only [tupOf])))) | refine wSkip ?_ | (refine wExit ?_; simp only [thenQ, blockQ, reduceIte, Nat.reduceEqDiff]) | refine wSeq ?_ | refine wBlock ?_)
    all_goals try (exfalso; (try simp only [Bool.not_eq_true', Bool.not_eq_false', Bool.and_eq_true, Bool.and_eq_false_iff, Bool.or_eq_true, Bool.or_eq_false_iff, decide_eq_true_eq, decide_eq_false_iff_not, beq_iff_eq, bne_iff_ne, Bool.not_true, Bool.not_false, Bool.true_eq_false, Bool.false_eq_true, ne_eq, Decidable.not_not, inB_t, inB_f] at *); first | omega | exact absurd trivial (by assumption))
    rw [hcc, hll]
    exact gives_ints (n := 0) RAcc.nil rfl
  have hcc : resC t.Nodes.length 4 = 0 := if_neg hbig
  have hll : resL stop t.Nodes 4 = idxTo stop t.Nodes t.Nodes.length := if_neg hbig
  repeat' (first | ((first | refine wSeqr (fun xx hx => ?_) | refine wIf (fun xx hx => ?_) | refine wReg (fun xx hx => ?_) | (refine wRet ?_; (try simp only [thenQ, blockQ]); refine ends_by (fun xx hx => ?_))); have hc := trivial; (repeat' (simp only [hc, go_sem, Nat.reduceAdd, Nat.reduceMul, Nat.reduceSub, Nat.reduceEqDiff, Nat.reduceLT, Nat.reduceLeDiff, Int.reduceEq, Int.reduceLT, Int.reduceLE, reduceIte, aresults, aresult, List.length_map, hp0] at hx; (try (rw [guardL_if] at hx; split at hx <;> rename_i hc)))); all_goals (subst hx; first | (refine ⟨_, rfl, fun ht => ?_, fun ht => ?_⟩ <;> (try simp only [Bool.not_eq_true', Bool.not_eq_false', Bool.and_eq_true, Bool.and_eq_false_iff, Bool.or_eq_true, Bool.or_eq_false_iff, decide_eq_true_eq, decide_eq_false_iff_not, beq_iff_eq, bne_iff_ne, Bool.not_true, Bool.not_false, Bool.true_eq_false, Bool.false_eq_true, ne_eq, Decidable.not_not, inB_t, inB_f] at ht)) | (refine ⟨_, rfl, ?_⟩; (try simp only [tupOf])))) | refine wSkip ?_ | (refine wExit ?_; simp only [thenQ, blockQ, reduceIte, Nat.reduceEqDiff]) | refine wSeq ?_ | refine wBlock ?_)
  all_goals try (exfalso; (try simp only [Bool.not_eq_true', Bool.not_eq_false', Bool.and_eq_true, Bool.and_eq_false_iff, Bool.or_eq_true, Bool.or_eq_false_iff, decide_eq_true_eq, decide_eq_false_iff_not, beq_iff_eq, bne_iff_ne, Bool.not_true, Bool.not_false, Bool.true_eq_false, Bool.false_eq_true, ne_eq, Decidable.not_not, inB_t, inB_f] at *); first | omega | exact absurd trivial (by assumption))
  refine wLoop (fun k s => ∃ (j : Nat) (x : AV), j + k = t.Nodes.length ∧ s.1 1 = .ptr 0 0 ∧ s.1 2 = .ptr 1 0 ∧ s.1 3 = .ptr 2 0 ∧ s.1 13 = .lst false (t.Nodes.map encNodeState) ∧ s.1 14 = .v (.int .i64 (t.Nodes.length : Nat)) ∧ s.1 15 = .v (.int .i64 (j : Nat)) ∧ (s.2.h 1 = some [.v (.int .i64 0), .v (.slice none 0 0)]) ∧ (s.2.h 2 = some [.v (.int .i64 0), x]) ∧ (2 < s.2.g) ∧ (RAcc s.2 x 1 ((idxTo stop t.Nodes j).map icell) (idxTo stop t.Nodes j).length) ∧ (Off 1 x ∧ Off 2 x)) (fun k s hI => ?_) (t.Nodes.length) _ ?_
  · obtain ⟨e, H⟩ := s
    obtain ⟨j, x, hj, h1, h2, h3, h13, h14, h15, hb1, hb2, hg0, hacc, hoff⟩ := hI
    simp only at h1 h2 h3 h13 h14 h15 hb1 hb2 hg0 hacc hoff
    have hne1 : ¬ 1 = H.g := by omega
    have hne2 : ¬ 2 = H.g := by omega
    have hil := idxTo_len stop t.Nodes j
    by_cases hlt : j < t.Nodes.length
    · obtain ⟨n, hg, hd, hm⟩ := at_drop hlt
      have hg' := map_at (f := encNodeState) hg
      cases hst : n.Stopped with
      | false =>
        repeat' (first | ((first | refine wSeqr (fun xx hx => ?_) | refine wIf (fun xx hx => ?_) | refine wReg (fun xx hx => ?_) | (refine wRet ?_; (try simp only [thenQ, blockQ]); refine ends_by (fun xx hx => ?_))); have hc := trivial; (repeat' (simp only [hc, go_sem, Nat.reduceAdd, Nat.reduceMul, Nat.reduceSub, Nat.reduceEqDiff, Nat.reduceLT, Nat.reduceLeDiff, Int.reduceEq, Int.reduceLT, Int.reduceLE, reduceIte, aresults, aresult, h13, h14, h15, hg', hne1, hne2, hst, wrap_succ (show j < 9223372036854775807 by omega)] at hx; (try (rw [guardL_if] at hx; split at hx <;> rename_i hc)))); all_goals (subst hx; first | (refine ⟨_, rfl, fun ht => ?_, fun ht => ?_⟩ <;> (try simp only [Bool.not_eq_true', Bool.not_eq_false', Bool.and_eq_true, Bool.and_eq_false_iff, Bool.or_eq_true, Bool.or_eq_false_iff, decide_eq_true_eq, decide_eq_false_iff_not, beq_iff_eq, bne_iff_ne, Bool.not_true, Bool.not_false, Bool.true_eq_false, Bool.false_eq_true, ne_eq, Decidable.not_not, inB_t, inB_f] at ht)) | (refine ⟨_, rfl, ?_⟩; (try simp only [tupOf])))) | refine wSkip ?_ | (refine wExit ?_; simp only [thenQ, blockQ, reduceIte, Nat.reduceEqDiff]) | refine wSeq ?_ | refine wBlock ?_)
        all_goals try (exfalso; (try simp only [Bool.not_eq_true', Bool.not_eq_false', Bool.and_eq_true, Bool.and_eq_false_iff, Bool.or_eq_true, Bool.or_eq_false_iff, decide_eq_true_eq, decide_eq_false_iff_not, beq_iff_eq, bne_iff_ne, Bool.not_true, Bool.not_false, Bool.true_eq_false, Bool.false_eq_true, ne_eq, Decidable.not_not, inB_t, inB_f] at *); first | omega | exact absurd trivial (by assumption))
        refine ⟨_, Nat.sub_lt (by omega) Nat.one_pos, j + 1, x, by omega, by simp only [upd_eq, Nat.reduceEqDiff, if_false, if_true, h1, h2, h3, h13, h14, h15], by simp only [upd_eq, Nat.reduceEqDiff, if_false, if_true, h1, h2, h3, h13, h14, h15], by simp only [upd_eq, Nat.reduceEqDiff, if_false, if_true, h1, h2, h3, h13, h14, h15], by simp only [upd_eq, Nat.reduceEqDiff, if_false, if_true, h1, h2, h3, h13, h14, h15], by simp only [upd_eq, Nat.reduceEqDiff, if_false, if_true, h1, h2, h3, h13, h14, h15], by simp only [upd_eq, Nat.reduceEqDiff, if_false, if_true, h1, h2, h3, h13, h14, h15], ?_⟩
        rw [idxTo_f (p := stop) hg hst]
        exact ⟨by simp only [Hp.set_h, Hp.new_h, hne1, if_false]; exact hb1, by simp only [Hp.set_h, Hp.new_h, hne2, if_false]; exact hb2, by simp; omega, hacc.ext (((Ext.refl H).new _).set (Nat.le_refl _) _), hoff⟩
      | true =>
        repeat' (first | ((first | refine wSeqr (fun xx hx => ?_) | refine wIf (fun xx hx => ?_) | refine wReg (fun xx hx => ?_) | (refine wRet ?_; (try simp only [thenQ, blockQ]); refine ends_by (fun xx hx => ?_))); have hc := trivial; (repeat' (simp only [hc, go_sem, Nat.reduceAdd, Nat.reduceMul, Nat.reduceSub, Nat.reduceEqDiff, Nat.reduceLT, Nat.reduceLeDiff, Int.reduceEq, Int.reduceLT, Int.reduceLE, reduceIte, aresults, aresult, h13, h14, h15, hg', hne1, hne2, hst, wrap_succ (show j < 9223372036854775807 by omega)] at hx; (try (rw [guardL_if] at hx; split at hx <;> rename_i hc)))); all_goals (subst hx; first | (refine ⟨_, rfl, fun ht => ?_, fun ht => ?_⟩ <;> (try simp only [Bool.not_eq_true', Bool.not_eq_false', Bool.and_eq_true, Bool.and_eq_false_iff, Bool.or_eq_true, Bool.or_eq_false_iff, decide_eq_true_eq, decide_eq_false_iff_not, beq_iff_eq, bne_iff_ne, Bool.not_true, Bool.not_false, Bool.true_eq_false, Bool.false_eq_true, ne_eq, Decidable.not_not, inB_t, inB_f] at ht)) | (refine ⟨_, rfl, ?_⟩; (try simp only [tupOf])))) | refine wSkip ?_ | (refine wExit ?_; simp only [thenQ, blockQ, reduceIte, Nat.reduceEqDiff]) | refine wSeq ?_ | refine wBlock ?_)
        all_goals try (exfalso; (try simp only [Bool.not_eq_true', Bool.not_eq_false', Bool.and_eq_true, Bool.and_eq_false_iff, Bool.or_eq_true, Bool.or_eq_false_iff, decide_eq_true_eq, decide_eq_false_iff_not, beq_iff_eq, bne_iff_ne, Bool.not_true, Bool.not_false, Bool.true_eq_false, Bool.false_eq_true, ne_eq, Decidable.not_not, inB_t, inB_f] at *); first | omega | exact absurd trivial (by assumption))
        refine wReg (fun xx hx => ?_); have hc := trivial; (repeat' (simp only [hc, go_sem, Nat.reduceAdd, Nat.reduceMul, Nat.reduceSub, Nat.reduceEqDiff, Nat.reduceLT, Nat.reduceLeDiff, Int.reduceEq, Int.reduceLT, Int.reduceLE, reduceIte, aresults, aresult, h3, hne2, hb2, hp0] at hx; (try (rw [guardL_if] at hx; split at hx <;> rename_i hc)))); generalize hq : aappend Try.prog _ _ _ _ = q at hx
        obtain ⟨x', H', rfl, hacc', hg1, hk2, ho2⟩ := app_rows hq el61 zero2 by2 int61 (sz := 1) rfl (by omega) (hacc.ext (((Ext.refl H).new _).set (Nat.le_refl _) _)) (m := 1) rfl (afirst_one _ _ [icell (j : Nat)]) rfl (by omega) (by omega)
        have q1 := hk2 1 (by simp; omega) hoff.1
        have q2 := hk2 2 (by simp; omega) hoff.2
        simp only [Hp.set_h, Hp.new_h, hne1, hne2, if_false] at q1 q2
        rw [hb1] at q1
        rw [hb2] at q2
        have hx' := RAcc.one hacc'
        have hc := trivial; (repeat' (simp only [hc, go_sem, Nat.reduceAdd, Nat.reduceMul, Nat.reduceSub, Nat.reduceEqDiff, Nat.reduceLT, Nat.reduceLeDiff, Int.reduceEq, Int.reduceLT, Int.reduceLE, reduceIte, aresults, aresult, h3, q2, hx'.1, hx'.2] at hx; (try (rw [guardL_if] at hx; split at hx <;> rename_i hc)))); all_goals (subst hx; refine ⟨_, rfl, ?_⟩)
        repeat' (first | ((first | refine wSeqr (fun xx hx => ?_) | refine wIf (fun xx hx => ?_) | refine wReg (fun xx hx => ?_) | (refine wRet ?_; (try simp only [thenQ, blockQ]); refine ends_by (fun xx hx => ?_))); have hc := trivial; (repeat' (simp only [hc, go_sem, Nat.reduceAdd, Nat.reduceMul, Nat.reduceSub, Nat.reduceEqDiff, Nat.reduceLT, Nat.reduceLeDiff, Int.reduceEq, Int.reduceLT, Int.reduceLE, reduceIte, aresults, aresult, h15, wrap_succ (show j < 9223372036854775807 by omega)] at hx; (try (rw [guardL_if] at hx; split at hx <;> rename_i hc)))); all_goals (subst hx; first | (refine ⟨_, rfl, fun ht => ?_, fun ht => ?_⟩ <;> (try simp only [Bool.not_eq_true', Bool.not_eq_false', Bool.and_eq_true, Bool.and_eq_false_iff, Bool.or_eq_true, Bool.or_eq_false_iff, decide_eq_true_eq, decide_eq_false_iff_not, beq_iff_eq, bne_iff_ne, Bool.not_true, Bool.not_false, Bool.true_eq_false, Bool.false_eq_true, ne_eq, Decidable.not_not, inB_t, inB_f] at ht)) | (refine ⟨_, rfl, ?_⟩; (try simp only [tupOf])))) | refine wSkip ?_ | (refine wExit ?_; simp only [thenQ, blockQ, reduceIte, Nat.reduceEqDiff]) | refine wSeq ?_ | refine wBlock ?_)
        refine ⟨_, Nat.sub_lt (by omega) Nat.one_pos, j + 1, x', by omega, by simp only [upd_eq, Nat.reduceEqDiff, if_false, if_true, h1, h2, h3, h13, h14, h15], by simp only [upd_eq, Nat.reduceEqDiff, if_false, if_true, h1, h2, h3, h13, h14, h15], by simp only [upd_eq, Nat.reduceEqDiff, if_false, if_true, h1, h2, h3, h13, h14, h15], by simp only [upd_eq, Nat.reduceEqDiff, if_false, if_true, h1, h2, h3, h13, h14, h15], by simp only [upd_eq, Nat.reduceEqDiff, if_false, if_true, h1, h2, h3, h13, h14, h15], by simp only [upd_eq, Nat.reduceEqDiff, if_false, if_true, h1, h2, h3, h13, h14, h15], ?_⟩
        have hgg : 2 < H'.g := by have := hg1; simp at this; omega
        have o1 : Off 1 x' := ho2 1 (by simp; omega) hoff.1
        have o2 : Off 2 x' := ho2 2 (by simp; omega) hoff.2
        rw [idxTo_t (p := stop) hg hst]
        refine ⟨by simp only [Hp.set_h]; exact q1, by simp only [Hp.set_h, if_true], hgg, ?_, o1, o2⟩
        rw [List.map_append, List.length_append]
        exact (hacc'.setOff o2 _)
    · have hxx := RAcc.one hacc
      repeat' (first | ((first | refine wSeqr (fun xx hx => ?_) | refine wIf (fun xx hx => ?_) | refine wReg (fun xx hx => ?_) | (refine wRet ?_; (try simp only [thenQ, blockQ]); refine ends_by (fun xx hx => ?_))); have hc := trivial; (repeat' (simp only [hc, go_sem, Nat.reduceAdd, Nat.reduceMul, Nat.reduceSub, Nat.reduceEqDiff, Nat.reduceLT, Nat.reduceLeDiff, Int.reduceEq, Int.reduceLT, Int.reduceLE, reduceIte, aresults, aresult, h13, h14, h15, h1, h2, h3, hb1, hb2, hxx.1, hxx.2] at hx; (try (rw [guardL_if] at hx; split at hx <;> rename_i hc)))); all_goals (subst hx; first | (refine ⟨_, rfl, fun ht => ?_, fun ht => ?_⟩ <;> (try simp only [Bool.not_eq_true', Bool.not_eq_false', Bool.and_eq_true, Bool.and_eq_false_iff, Bool.or_eq_true, Bool.or_eq_false_iff, decide_eq_true_eq, decide_eq_false_iff_not, beq_iff_eq, bne_iff_ne, Bool.not_true, Bool.not_false, Bool.true_eq_false, Bool.false_eq_true, ne_eq, Decidable.not_not, inB_t, inB_f] at ht)) | (refine ⟨_, rfl, ?_⟩; (try simp only [tupOf])))) | refine wSkip ?_ | (refine wExit ?_; simp only [thenQ, blockQ, reduceIte, Nat.reduceEqDiff]) | refine wSeq ?_ | refine wBlock ?_)
      all_goals try (exfalso; (try simp only [Bool.not_eq_true', Bool.not_eq_false', Bool.and_eq_true, Bool.and_eq_false_iff, Bool.or_eq_true, Bool.or_eq_false_iff, decide_eq_true_eq, decide_eq_false_iff_not, beq_iff_eq, bne_iff_ne, Bool.not_true, Bool.not_false, Bool.true_eq_false, Bool.false_eq_true, ne_eq, Decidable.not_not, inB_t, inB_f] at *); first | omega | exact absurd trivial (by assumption))
      rw [hcc, hll]
      have hj' : j = t.Nodes.length := by omega
      rw [← hj']
      refine gives_ints ((hacc.setOff hoff.1 _).keep (Nat.le_refl _) fun _ _ _ => rfl) rfl
  · refine ⟨0, .v (.slice none 0 0), by omega, rfl, rfl, rfl, rfl, rfl, rfl, ?_⟩
    exact ⟨rfl, rfl, by simp, RAcc.nil, off_nil, off_nil⟩
theorem p_iStoppedIn (t : StateM) (hk : t.ok 1048576) : pure Try.prog cfg0 47 Try.f47 [.agg [.lst false (t.Nodes.map encNodeState), .lst false (t.Flights.map encFlight), i64L t.Codes]] = some (.agg [.v (.int .i64 (resC t.Nodes.length 4)), i64L (resL stop t.Nodes 4)], true) := (pq_iStoppedIn t hk).1
theorem c_iStoppedIn (t : StateM) (hk : t.ok 1048576) : ∀ H, call Try.prog cfg0 0 47 [.agg [.lst false (t.Nodes.map encNodeState), .lst false (t.Flights.map encFlight), i64L t.Codes]] H = some (.agg [.v (.int .i64 (resC t.Nodes.length 4)), i64L (resL stop t.Nodes 4)], H) :=
  call_fz Try.func47 rfl ok_iStoppedIn rfl (by simp only [fz_cons, fz_nil, go_sem, and_self]) (pq_iStoppedIn t hk).1
theorem o_iStoppedIn (t : StateM) (hk : t.ok 1048576) : ∀ H, call Try.prog cfg0 1 47 [.agg [.lst false (t.Nodes.map encNodeState), .lst false (t.Flights.map encFlight), i64L t.Codes]] H = mat depthD (.agg [.v (.int .i64 (resC t.Nodes.length 4)), i64L (resL stop t.Nodes 4)]) H := fun H =>
  call_ofO Try.func47 rfl ok_iStoppedIn rfl (mapM_self fun x hx => ((show ∀ x ∈ ([.agg [.lst false (t.Nodes.map encNodeState), .lst false (t.Flights.map encFlight), i64L t.Codes]] : List AV), Fz depthD x by simp only [fz_cons, fz_nil, go_sem, and_self]) x hx).1 H) (pq_iStoppedIn t hk).2

end
end Go.Proofs.Ytmncdkecpnoogaa
