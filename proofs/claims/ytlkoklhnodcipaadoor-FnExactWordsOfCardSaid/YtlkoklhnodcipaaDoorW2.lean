/- Contracts: words of a line, the reference's side. -/
import Derived.Test.YtlkoklhnodcipaaDoorW1
namespace Go.Proofs.YtlkoklhnodcipaaDoor
open Go Go.RowKit Go.Proofs.YtlkoklhnodcipaaDoor.Eng
set_option linter.unusedSimpArgs false
set_option linter.unusedVariables false
set_option maxRecDepth 100000
set_option maxHeartbeats 1000000
noncomputable section
theorem get_tx {l : List ByteArray} {j : Nat} {x : ByteArray} (h : l[j]? = some x) : (l.map fun s => [AV.v (.string s)])[j]? = some [.v (.string x)] := by rw [List.getElem?_map, h]; rfl
theorem str_eqW (a b : ByteArray) : (a.toList == b.toList) = decide (a.data.toList = b.data.toList) := by
  have e : ∀ s : ByteArray, s.toList = s.data.toList := fun s => by simp [ByteArray.toList_eq]
  rw [e, e]
  apply bool_eq
  simp only [beq_iff_eq, decide_eq_true_eq]
theorem gO_texts {H : Hp} {x : AV} {n : Nat} {l : List ByteArray} (h : RAcc H x 1 (l.map txcell) n) : GivesO (textsL l) x H := by
  have hn : n = l.length := by have := h.1; simpa using this.symm
  subst hn
  rcases h.2 with ⟨h0, e⟩ | ⟨b, hb, rfl, hh⟩
  · have e0 : l = [] := List.length_eq_zero_iff.1 h0
    subst e0
    rcases e with rfl | rfl
    · exact gF_O (gF_lstT 11 H)
    · exact gF_O (gF_nil 11 H)
  · obtain ⟨fp, f1, f2, -⟩ := fpt_flat (d := 11) hh (sz := 1) (o := 0) (n := l.length) (fun c hc => by obtain ⟨s, -, rfl⟩ := List.mem_map.1 hc; rfl)
    refine ⟨⟨deep_txts hh rfl hb 10, ?_⟩, fp, f1, f2⟩
    show ((((H.h b).getD []).drop 0).take (l.length * 1)).all (clean H 11) = true
    rw [hh]
    refine List.all_eq_true.2 fun x hx => ?_
    have := List.mem_of_mem_drop (List.mem_of_mem_take hx)
    obtain ⟨z, -, rfl⟩ := List.mem_map.1 this; rfl
def txts (o : List (List UInt8)) : List ByteArray := o.map ba
theorem ext_list (a : ByteArray) (l h : Nat) : (a.extract l h).data.toList = (a.data.toList.drop l).take (h - l) := by
  rw [ByteArray.data_extract, Array.toList_extract]
theorem ext_ba (s : ByteArray) (f t : Nat) : s.extract f t = ba ((s.data.toList.drop f).take (t - f)) := by
  rw [← ext_list, ba_of]
abbrev Pieces := List (List UInt8)
/-- How far the cutting has come: at place j, with the pieces o, from place f on. -/
def CutAt (c : UInt8) (l : List UInt8) (j f : Nat) (o : List (List UInt8)) : Prop :=
  (j ≤ l.length ∧ f ≤ j ∧ cutL c l = o ++ pre ((l.drop f).take (j - f)) (cutL c (l.drop j))) ∨ (j = l.length + 1 ∧ cutL c l = o)
theorem CutAt.zero (c : UInt8) (l : List UInt8) : CutAt c l 0 0 [] := .inl ⟨by omega, by omega, by simp [pre_nil (cutL_ne c l)]⟩
theorem CutAt.hit {c : UInt8} {l : List UInt8} {j f : Nat} {o : List (List UInt8)} (h : CutAt c l j f o) (hj : l[j]? = some c) : CutAt c l (j + 1) (j + 1) (o ++ [(l.drop f).take (j - f)]) := by
  have hlt : j < l.length := (List.getElem?_eq_some_iff.1 hj).1
  rcases h with ⟨h1, h2, h3⟩ | ⟨h1, -⟩
  · have hd : l.drop j = c :: l.drop (j + 1) := by
      rw [List.drop_eq_getElem_cons hlt]; congr 1; exact (List.getElem?_eq_some_iff.1 hj).2
    rw [hd, cut_hit rfl] at h3
    refine .inl ⟨by omega, by omega, ?_⟩
    rw [h3, Nat.sub_self, List.take_zero, pre_nil (cutL_ne _ _)]; simp
  · omega
theorem CutAt.miss {c b : UInt8} {l : List UInt8} {j f : Nat} {o : List (List UInt8)} (h : CutAt c l j f o) (hj : l[j]? = some b) (hb : ¬ b = c) : CutAt c l (j + 1) f o := by
  have hlt : j < l.length := (List.getElem?_eq_some_iff.1 hj).1
  rcases h with ⟨h1, h2, h3⟩ | ⟨h1, -⟩
  · have hd : l.drop j = b :: l.drop (j + 1) := by
      rw [List.drop_eq_getElem_cons hlt]; congr 1; exact (List.getElem?_eq_some_iff.1 hj).2
    rw [hd, cut_miss hb] at h3
    refine .inl ⟨by omega, by omega, ?_⟩
    have e : (l.drop f).take (j + 1 - f) = (l.drop f).take (j - f) ++ [b] := by
      rw [show j + 1 - f = (j - f) + 1 by omega, List.take_add_one]
      congr 1
      rw [List.getElem?_drop, show f + (j - f) = j by omega, hj]; rfl
    rw [h3, e]
  · omega
theorem CutAt.end_ {c : UInt8} {l : List UInt8} {j f : Nat} {o : List (List UInt8)} (h : CutAt c l j f o) (hj : j = l.length) : CutAt c l (j + 1) (j + 1) (o ++ [(l.drop f).take (j - f)]) := by
  rcases h with ⟨h1, h2, h3⟩ | ⟨h1, -⟩
  · refine .inr ⟨by omega, ?_⟩
    rw [h3, hj, List.drop_length]; simp [cutL, pre]
  · omega
theorem CutAt.fin {c : UInt8} {l : List UInt8} {j f : Nat} {o : List (List UInt8)} (h : CutAt c l j f o) (hj : l.length < j) : cutL c l = o := by
  rcases h with ⟨h1, -⟩ | ⟨-, h2⟩
  · omega
  · exact h2
theorem fin_code (c : UInt8) : (((c.toNat : Nat) : Int).toNat).toUInt8 = c := by simp
theorem ok_sl1Cut : fnOk Tryd.prog cfg0 16 Tryd.f16 = true := by kernel_rfl
theorem pq_sl1Cut (a : ByteArray) (hs : a.size ≤ 1048576) (c : UInt8) : pure Tryd.prog cfg0 16 Tryd.f16 [.v (.string a), .v (.int .u8 (c.toNat : Nat))] = some (textsL ((cutL c a.data.toList).map ba), true) ∧ owned Tryd.prog cfg0 16 Tryd.f16 [.v (.string a), .v (.int .u8 (c.toNat : Nat))] = some (textsL ((cutL c a.data.toList).map ba)) := by
  refine both_wp (rs := [.tmp 4]) rfl rfl ?_
  have hp0 : ∀ b, cfg0.pol 16 b = 0 := fun b => rfl
  have hsz : a.size = a.data.toList.length := by rw [ByteArray.size]; simp
  repeat' (first | ((first | refine wSeqr (fun xx hx => ?_) | refine wIf (fun xx hx => ?_) | refine wReg (fun xx hx => ?_) | (refine wRet ?_; (try simp only [thenQ, blockQ]); refine ends_by (fun xx hx => ?_))); have hc := trivial; (repeat' (simp only [hc, Nat.reduceBEq, go_sem, Nat.reduceAdd, Nat.reduceMul, Nat.reduceSub, Nat.reduceEqDiff, Nat.reduceLT, Nat.reduceLeDiff, Int.reduceEq, Int.reduceLT, Int.reduceLE, reduceIte, aresults, aresult, hp0] at hx; (try (rw [guardL_if] at hx; split at hx <;> rename_i hc)))); all_goals (subst hx; first | (refine ⟨_, rfl, fun ht => ?_, fun ht => ?_⟩ <;> (try simp only [bbs, beq_iff_eq, bne_iff_ne, ne_eq] at ht)) | (refine ⟨_, rfl, ?_⟩; (try simp only [tupOf])))) | refine wSkip ?_ | (refine wExit ?_; simp only [thenQ, blockQ, reduceIte, Nat.reduceEqDiff]) | refine wSeq ?_ | refine wBlock ?_)
  refine wLoop (fun k s => ∃ (j : Nat) (x : AV) (f : Nat) (o : Pieces), j + k = a.size + 1 ∧ s.1 0 = .v (.string a) ∧ s.1 1 = .v (.int .u8 (c.toNat : Nat)) ∧ s.1 5 = x ∧ s.1 6 = .v (.int .i64 (f : Nat)) ∧ s.1 7 = .v (.int .i64 (j : Nat)) ∧ (RAcc s.2 x 1 ((o.map ba).map txcell) o.length) ∧ (CutAt c a.data.toList j f o) ∧ (f ≤ j ∧ o.length ≤ j ∧ j ≤ a.size + 1)) (fun k s hI => ?_) (a.size + 1) _ ?_
  · obtain ⟨e, H⟩ := s
    obtain ⟨j, x, f, o, hj, h0, h1, h5, h6, h7, hr, hcut, hfj⟩ := hI
    simp only at h0 h1 h5 h6 h7 hr hcut hfj
    by_cases hlt : j ≤ a.size
    · have hltI : ((j : Nat) : Int) ≤ (a.size : Int) := by omega
      have w1 : IntKind.wrap .i64 (((j : Nat) : Int) + 1) = ((j + 1 : Nat) : Int) := wrap_succ (by omega)
      have hsl : (f ≤ j ∧ j ≤ a.size) = True := eq_true ⟨hfj.1, hlt⟩
      have hin : ((j : Nat) : Int) = (a.size : Int) ∨ ∃ b, a.data.toList[j]? = some b ∧ ¬ ((j : Nat) : Int) = (a.size : Int) := by
        by_cases he : j = a.size
        · exact .inl (by omega)
        · exact .inr ⟨a.data.toList[j]'(by omega), by simp, by omega⟩
      have hcuts : ((j : Nat) : Int) = (a.size : Int) ∨ (∃ b, a.data.toList[j]? = some b ∧ ¬ ((j : Nat) : Int) = (a.size : Int) ∧ b = c) → CutAt c a.data.toList (j + 1) (j + 1) (o ++ [(a.data.toList.drop f).take (j - f)]) := by
        rintro (he | ⟨b, hg, -, rfl⟩)
        · exact hcut.end_ (by omega)
        · exact hcut.hit hg
      rcases hin with he | ⟨b, hg, he⟩
      · have heT : (((j : Nat) : Int) = (a.size : Int)) = True := eq_true he
        repeat' ((fail_if_success (first | refine wAt 7 ?_)); first | ((first | refine wSeqr (fun xx hx => ?_) | refine wIf (fun xx hx => ?_) | refine wReg (fun xx hx => ?_) | (refine wRet ?_; (try simp only [thenQ, blockQ]); refine ends_by (fun xx hx => ?_))); have hc := trivial; (repeat' (simp only [hc, Nat.reduceBEq, go_sem, Nat.reduceAdd, Nat.reduceMul, Nat.reduceSub, Nat.reduceEqDiff, Nat.reduceLT, Nat.reduceLeDiff, Int.reduceEq, Int.reduceLT, Int.reduceLE, reduceIte, aresults, aresult, hp0, h0, h1, h7, hltI, heT] at hx; (try (rw [guardL_if] at hx; split at hx <;> rename_i hc)))); all_goals (subst hx; first | (refine ⟨_, rfl, fun ht => ?_, fun ht => ?_⟩ <;> (try simp only [bbs, beq_iff_eq, bne_iff_ne, ne_eq] at ht)) | (refine ⟨_, rfl, ?_⟩; (try simp only [tupOf])))) | refine wSkip ?_ | (refine wExit ?_; simp only [thenQ, blockQ, reduceIte, Nat.reduceEqDiff]) | refine wSeq ?_ | refine wBlock ?_)
        all_goals try (exfalso; (try simp only [bbs, beq_iff_eq, bne_iff_ne, ne_eq] at *); first | omega | exact absurd trivial (by assumption))
        (first | refine wSeqr (fun xx hx => ?_) | refine wReg (fun xx hx => ?_)); have hc := trivial; (repeat' (simp only [hc, Nat.reduceBEq, go_sem, Nat.reduceAdd, Nat.reduceMul, Nat.reduceSub, Nat.reduceEqDiff, Nat.reduceLT, Nat.reduceLeDiff, Int.reduceEq, Int.reduceLT, Int.reduceLE, reduceIte, aresults, aresult, hp0, h0, h5, h6, h7, hsl, aslice_S u9] at hx; (try (rw [guardL_if] at hx; split at hx <;> rename_i hc)))); generalize hq : aappend Tryd.prog _ _ _ _ = q at hx
        obtain ⟨x', K2, rfl, hacc, hg2, hk2, ho2⟩ := app_rows hq el22 zero9 by9 int22 (sz := 1) rfl (by omega) hr (m := 1) rfl (afirst_one _ _ [txcell (a.extract f j)]) rfl (by omega) (by omega)
        clear hq
        have hc := trivial; (repeat' (simp only [hc, Nat.reduceBEq, go_sem, Nat.reduceAdd, Nat.reduceMul, Nat.reduceSub, Nat.reduceEqDiff, Nat.reduceLT, Nat.reduceLeDiff, Int.reduceEq, Int.reduceLT, Int.reduceLE, reduceIte, aresults, aresult, hp0] at hx; (try (rw [guardL_if] at hx; split at hx <;> rename_i hc)))); all_goals (subst hx; refine ⟨_, rfl, ?_⟩)
        repeat' (first | ((first | refine wSeqr (fun xx hx => ?_) | refine wIf (fun xx hx => ?_) | refine wReg (fun xx hx => ?_) | (refine wRet ?_; (try simp only [thenQ, blockQ]); refine ends_by (fun xx hx => ?_))); have hc := trivial; (repeat' (simp only [hc, Nat.reduceBEq, go_sem, Nat.reduceAdd, Nat.reduceMul, Nat.reduceSub, Nat.reduceEqDiff, Nat.reduceLT, Nat.reduceLeDiff, Int.reduceEq, Int.reduceLT, Int.reduceLE, reduceIte, aresults, aresult, hp0, h7, w1] at hx; (try (rw [guardL_if] at hx; split at hx <;> rename_i hc)))); all_goals (subst hx; first | (refine ⟨_, rfl, fun ht => ?_, fun ht => ?_⟩ <;> (try simp only [bbs, beq_iff_eq, bne_iff_ne, ne_eq] at ht)) | (refine ⟨_, rfl, ?_⟩; (try simp only [tupOf])))) | refine wSkip ?_ | (refine wExit ?_; simp only [thenQ, blockQ, reduceIte, Nat.reduceEqDiff]) | refine wSeq ?_ | refine wBlock ?_)
        all_goals try (exfalso; (try simp only [bbs, beq_iff_eq, bne_iff_ne, ne_eq] at *); first | omega | exact absurd trivial (by assumption))
        refine ⟨_, Nat.sub_lt (by omega) Nat.one_pos, j + 1, x', j + 1, o ++ [(a.data.toList.drop f).take (j - f)], by omega, by simp only [upd_eq, Nat.reduceEqDiff, if_false, if_true, h0, h1, h5, h6, h7], by simp only [upd_eq, Nat.reduceEqDiff, if_false, if_true, h0, h1, h5, h6, h7], by simp only [upd_eq, Nat.reduceEqDiff, if_false, if_true, h0, h1, h5, h6, h7], by simp only [upd_eq, Nat.reduceEqDiff, if_false, if_true, h0, h1, h5, h6, h7], by simp only [upd_eq, Nat.reduceEqDiff, if_false, if_true, h0, h1, h5, h6, h7], ?_⟩
        refine ⟨?_, hcuts (.inl he), by simp; omega⟩
        rw [List.map_append, List.map_append, List.length_append, List.map_singleton, List.map_singleton, ← ext_ba]
        exact hacc
      · by_cases hbc : b = c
        · have hbI : ((b.toNat : Nat) : Int) = (c.toNat : Int) := by rw [hbc]
          have hbT : (((b.toNat : Nat) : Int) = (c.toNat : Int)) = True := eq_true hbI
          repeat' ((fail_if_success (first | refine wAt 7 ?_)); first | ((first | refine wSeqr (fun xx hx => ?_) | refine wIf (fun xx hx => ?_) | refine wReg (fun xx hx => ?_) | (refine wRet ?_; (try simp only [thenQ, blockQ]); refine ends_by (fun xx hx => ?_))); have hc := trivial; (repeat' (simp only [hc, Nat.reduceBEq, go_sem, Nat.reduceAdd, Nat.reduceMul, Nat.reduceSub, Nat.reduceEqDiff, Nat.reduceLT, Nat.reduceLeDiff, Int.reduceEq, Int.reduceLT, Int.reduceLE, reduceIte, aresults, aresult, hp0, h0, h1, h7, hltI, he, hg, hbT] at hx; (try (rw [guardL_if] at hx; split at hx <;> rename_i hc)))); all_goals (subst hx; first | (refine ⟨_, rfl, fun ht => ?_, fun ht => ?_⟩ <;> (try simp only [bbs, beq_iff_eq, bne_iff_ne, ne_eq] at ht)) | (refine ⟨_, rfl, ?_⟩; (try simp only [tupOf])))) | refine wSkip ?_ | (refine wExit ?_; simp only [thenQ, blockQ, reduceIte, Nat.reduceEqDiff]) | refine wSeq ?_ | refine wBlock ?_)
          all_goals try (exfalso; (try simp only [bbs, beq_iff_eq, bne_iff_ne, ne_eq] at *); first | omega | exact absurd trivial (by assumption))
          (first | refine wSeqr (fun xx hx => ?_) | refine wReg (fun xx hx => ?_)); have hc := trivial; (repeat' (simp only [hc, Nat.reduceBEq, go_sem, Nat.reduceAdd, Nat.reduceMul, Nat.reduceSub, Nat.reduceEqDiff, Nat.reduceLT, Nat.reduceLeDiff, Int.reduceEq, Int.reduceLT, Int.reduceLE, reduceIte, aresults, aresult, hp0, h0, h5, h6, h7, hsl, aslice_S u9] at hx; (try (rw [guardL_if] at hx; split at hx <;> rename_i hc)))); generalize hq : aappend Tryd.prog _ _ _ _ = q at hx
          obtain ⟨x', K2, rfl, hacc, hg2, hk2, ho2⟩ := app_rows hq el22 zero9 by9 int22 (sz := 1) rfl (by omega) hr (m := 1) rfl (afirst_one _ _ [txcell (a.extract f j)]) rfl (by omega) (by omega)
          clear hq
          have hc := trivial; (repeat' (simp only [hc, Nat.reduceBEq, go_sem, Nat.reduceAdd, Nat.reduceMul, Nat.reduceSub, Nat.reduceEqDiff, Nat.reduceLT, Nat.reduceLeDiff, Int.reduceEq, Int.reduceLT, Int.reduceLE, reduceIte, aresults, aresult, hp0] at hx; (try (rw [guardL_if] at hx; split at hx <;> rename_i hc)))); all_goals (subst hx; refine ⟨_, rfl, ?_⟩)
          repeat' (first | ((first | refine wSeqr (fun xx hx => ?_) | refine wIf (fun xx hx => ?_) | refine wReg (fun xx hx => ?_) | (refine wRet ?_; (try simp only [thenQ, blockQ]); refine ends_by (fun xx hx => ?_))); have hc := trivial; (repeat' (simp only [hc, Nat.reduceBEq, go_sem, Nat.reduceAdd, Nat.reduceMul, Nat.reduceSub, Nat.reduceEqDiff, Nat.reduceLT, Nat.reduceLeDiff, Int.reduceEq, Int.reduceLT, Int.reduceLE, reduceIte, aresults, aresult, hp0, h7, w1] at hx; (try (rw [guardL_if] at hx; split at hx <;> rename_i hc)))); all_goals (subst hx; first | (refine ⟨_, rfl, fun ht => ?_, fun ht => ?_⟩ <;> (try simp only [bbs, beq_iff_eq, bne_iff_ne, ne_eq] at ht)) | (refine ⟨_, rfl, ?_⟩; (try simp only [tupOf])))) | refine wSkip ?_ | (refine wExit ?_; simp only [thenQ, blockQ, reduceIte, Nat.reduceEqDiff]) | refine wSeq ?_ | refine wBlock ?_)
          all_goals try (exfalso; (try simp only [bbs, beq_iff_eq, bne_iff_ne, ne_eq] at *); first | omega | exact absurd trivial (by assumption))
          refine ⟨_, Nat.sub_lt (by omega) Nat.one_pos, j + 1, x', j + 1, o ++ [(a.data.toList.drop f).take (j - f)], by omega, by simp only [upd_eq, Nat.reduceEqDiff, if_false, if_true, h0, h1, h5, h6, h7], by simp only [upd_eq, Nat.reduceEqDiff, if_false, if_true, h0, h1, h5, h6, h7], by simp only [upd_eq, Nat.reduceEqDiff, if_false, if_true, h0, h1, h5, h6, h7], by simp only [upd_eq, Nat.reduceEqDiff, if_false, if_true, h0, h1, h5, h6, h7], by simp only [upd_eq, Nat.reduceEqDiff, if_false, if_true, h0, h1, h5, h6, h7], ?_⟩
          refine ⟨?_, hcuts (.inr ⟨b, hg, he, hbc⟩), by simp; omega⟩
          rw [List.map_append, List.map_append, List.length_append, List.map_singleton, List.map_singleton, ← ext_ba]
          exact hacc
        · have hbI : ¬ ((b.toNat : Nat) : Int) = (c.toNat : Int) := fun h => hbc (UInt8.toNat_inj.1 (by omega))
          repeat' (first | ((first | refine wSeqr (fun xx hx => ?_) | refine wIf (fun xx hx => ?_) | refine wReg (fun xx hx => ?_) | (refine wRet ?_; (try simp only [thenQ, blockQ]); refine ends_by (fun xx hx => ?_))); have hc := trivial; (repeat' (simp only [hc, Nat.reduceBEq, go_sem, Nat.reduceAdd, Nat.reduceMul, Nat.reduceSub, Nat.reduceEqDiff, Nat.reduceLT, Nat.reduceLeDiff, Int.reduceEq, Int.reduceLT, Int.reduceLE, reduceIte, aresults, aresult, hp0, h0, h1, h7, hltI, he, hg, hbI, w1] at hx; (try (rw [guardL_if] at hx; split at hx <;> rename_i hc)))); all_goals (subst hx; first | (refine ⟨_, rfl, fun ht => ?_, fun ht => ?_⟩ <;> (try simp only [bbs, beq_iff_eq, bne_iff_ne, ne_eq] at ht)) | (refine ⟨_, rfl, ?_⟩; (try simp only [tupOf])))) | refine wSkip ?_ | (refine wExit ?_; simp only [thenQ, blockQ, reduceIte, Nat.reduceEqDiff]) | refine wSeq ?_ | refine wBlock ?_)
          all_goals try (exfalso; (try simp only [bbs, beq_iff_eq, bne_iff_ne, ne_eq] at *); first | omega | exact absurd trivial (by assumption))
          refine ⟨_, Nat.sub_lt (by omega) Nat.one_pos, j + 1, x, f, o, by omega, by simp only [upd_eq, Nat.reduceEqDiff, if_false, if_true, h0, h1, h5, h6, h7], by simp only [upd_eq, Nat.reduceEqDiff, if_false, if_true, h0, h1, h5, h6, h7], by simp only [upd_eq, Nat.reduceEqDiff, if_false, if_true, h0, h1, h5, h6, h7], by simp only [upd_eq, Nat.reduceEqDiff, if_false, if_true, h0, h1, h5, h6, h7], by simp only [upd_eq, Nat.reduceEqDiff, if_false, if_true, h0, h1, h5, h6, h7], ?_⟩
          exact ⟨hr, hcut.miss hg hbc, by omega⟩
    · have hltI : ¬ ((j : Nat) : Int) ≤ (a.size : Int) := by omega
      repeat' (first | ((first | refine wSeqr (fun xx hx => ?_) | refine wIf (fun xx hx => ?_) | refine wReg (fun xx hx => ?_) | (refine wRet ?_; (try simp only [thenQ, blockQ]); refine ends_by (fun xx hx => ?_))); have hc := trivial; (repeat' (simp only [hc, Nat.reduceBEq, go_sem, Nat.reduceAdd, Nat.reduceMul, Nat.reduceSub, Nat.reduceEqDiff, Nat.reduceLT, Nat.reduceLeDiff, Int.reduceEq, Int.reduceLT, Int.reduceLE, reduceIte, aresults, aresult, hp0, h0, h5, h7, hltI] at hx; (try (rw [guardL_if] at hx; split at hx <;> rename_i hc)))); all_goals (subst hx; first | (refine ⟨_, rfl, fun ht => ?_, fun ht => ?_⟩ <;> (try simp only [bbs, beq_iff_eq, bne_iff_ne, ne_eq] at ht)) | (refine ⟨_, rfl, ?_⟩; (try simp only [tupOf])))) | refine wSkip ?_ | (refine wExit ?_; simp only [thenQ, blockQ, reduceIte, Nat.reduceEqDiff]) | refine wSeq ?_ | refine wBlock ?_)
      all_goals try (exfalso; (try simp only [bbs, beq_iff_eq, bne_iff_ne, ne_eq] at *); first | omega | exact absurd trivial (by assumption))
      rw [hcut.fin (by omega)]
      exact gO_texts hr
  · exact ⟨0, .lst true [], 0, [], by omega, rfl, rfl, rfl, rfl, rfl, RAcc.lst, CutAt.zero _ _, by simp⟩
theorem p_sl1Cut (a : ByteArray) (hs : a.size ≤ 1048576) (c : UInt8) : pure Tryd.prog cfg0 16 Tryd.f16 [.v (.string a), .v (.int .u8 (c.toNat : Nat))] = some (textsL ((cutL c a.data.toList).map ba), true) := (pq_sl1Cut a hs c).1
theorem c_sl1Cut (a : ByteArray) (hs : a.size ≤ 1048576) (c : UInt8) : ∀ H, call Tryd.prog cfg0 0 16 [.v (.string a), .v (.int .u8 (c.toNat : Nat))] H = some (textsL ((cutL c a.data.toList).map ba), H) :=
  call_fz Tryd.func16 rfl ok_sl1Cut rfl (by simp only [fz_cons, fz_nil, go_sem, and_self]) (pq_sl1Cut a hs c).1
theorem o_sl1Cut (a : ByteArray) (hs : a.size ≤ 1048576) (c : UInt8) : ∀ H, call Tryd.prog cfg0 1 16 [.v (.string a), .v (.int .u8 (c.toNat : Nat))] H = mat depthD (textsL ((cutL c a.data.toList).map ba)) H := fun H =>
  call_ofO Tryd.func16 rfl ok_sl1Cut rfl (mapM_self fun x hx => ((show ∀ x ∈ ([.v (.string a), .v (.int .u8 (c.toNat : Nat))] : List AV), Fz depthD x by simp only [fz_cons, fz_nil, go_sem, and_self]) x hx).1 H) (pq_sl1Cut a hs c).2

theorem fil_take {l : List ByteArray} {j : Nat} {x : ByteArray} (h : l[j]? = some x) : (l.take (j + 1)).filter neB = (l.take j).filter neB ++ if x.data.toList = [] then [] else [x] := by
  rw [List.take_add_one, h, List.filter_append]
  congr 1
  by_cases hx : x.data.toList = [] <;> simp [neB, hx]
theorem ok_sl14Words : fnOk Tryd.prog cfg0 9 Tryd.f9 = true := by kernel_rfl
theorem pq_sl14Words (a : ByteArray) (hs : a.size ≤ 1048576) : pure Tryd.prog cfg0 9 Tryd.f9 [.v (.string a)] = some (textsL ((wordsL a.data.toList).map ba), true) ∧ owned Tryd.prog cfg0 9 Tryd.f9 [.v (.string a)] = some (textsL ((wordsL a.data.toList).map ba)) := by
  refine both_wp (rs := [.tmp 2]) rfl rfl ?_
  have hp0 : ∀ b, cfg0.pol 9 b = 0 := fun b => rfl
  have hsz : a.size = a.data.toList.length := by rw [ByteArray.size]; simp
  have hcs := cut_size 32 a.data.toList
  have hc := c_sl1Cut a hs 32
  rw [← wordsL_ba]
  have hP : ((cutL 32 a.data.toList).map ba).length ≤ a.size + 1 := by rw [List.length_map]; omega
  generalize (cutL 32 a.data.toList).map ba = P at hc hP
  have hc' : ∀ H, call Tryd.prog cfg0 0 16 [.v (.string a), .v (.int .u8 32)] H = some (textsL P, H) := hc
  repeat' (first | ((first | refine wSeqr (fun xx hx => ?_) | refine wIf (fun xx hx => ?_) | refine wReg (fun xx hx => ?_) | (refine wRet ?_; (try simp only [thenQ, blockQ]); refine ends_by (fun xx hx => ?_))); have hc := trivial; (repeat' (simp only [hc, Nat.reduceBEq, go_sem, Nat.reduceAdd, Nat.reduceMul, Nat.reduceSub, Nat.reduceEqDiff, Nat.reduceLT, Nat.reduceLeDiff, Int.reduceEq, Int.reduceLT, Int.reduceLE, reduceIte, aresults, aresult, hp0, hc'] at hx; (try (rw [guardL_if] at hx; split at hx <;> rename_i hc)))); all_goals (subst hx; first | (refine ⟨_, rfl, fun ht => ?_, fun ht => ?_⟩ <;> (try simp only [bbs, beq_iff_eq, bne_iff_ne, ne_eq] at ht)) | (refine ⟨_, rfl, ?_⟩; (try simp only [tupOf])))) | refine wSkip ?_ | (refine wExit ?_; simp only [thenQ, blockQ, reduceIte, Nat.reduceEqDiff]) | refine wSeq ?_ | refine wBlock ?_)
  refine wLoop (fun k s => ∃ (j : Nat) (x : AV), j + k = P.length ∧ s.1 4 = textsL P ∧ s.1 3 = x ∧ s.1 5 = .v (.int .i64 (j : Nat)) ∧ (RAcc s.2 x 1 (((P.take j).filter neB).map txcell) ((P.take j).filter neB).length)) (fun k s hI => ?_) (P.length) _ ?_
  · obtain ⟨e, H⟩ := s
    obtain ⟨j, x, hj, h4, h3, h5, hr⟩ := hI
    simp only at h4 h3 h5 hr
    have hfl : ((P.take j).filter neB).length ≤ P.length := Nat.le_trans (List.length_filter_le _ _) (by rw [List.length_take]; omega)
    by_cases hlt : j < P.length
    · obtain ⟨y, hg, hd, hm⟩ := at_drop hlt
      have hg' := get_tx hg
      have hft := fil_take hg
      have w1 : IntKind.wrap .i64 (((j : Nat) : Int) + 1) = ((j + 1 : Nat) : Int) := wrap_succ (by omega)
      by_cases hy : y.data.toList = []
      · rw [if_pos hy, List.append_nil] at hft
        repeat' (first | ((first | refine wSeqr (fun xx hx => ?_) | refine wIf (fun xx hx => ?_) | refine wReg (fun xx hx => ?_) | (refine wRet ?_; (try simp only [thenQ, blockQ]); refine ends_by (fun xx hx => ?_))); have hc := trivial; (repeat' (simp only [hc, Nat.reduceBEq, go_sem, Nat.reduceAdd, Nat.reduceMul, Nat.reduceSub, Nat.reduceEqDiff, Nat.reduceLT, Nat.reduceLeDiff, Int.reduceEq, Int.reduceLT, Int.reduceLE, reduceIte, aresults, aresult, hp0, h4, h5, textsL, List.length_map, hg', str_eqW, hy, w1] at hx; (try (rw [guardL_if] at hx; split at hx <;> rename_i hc)))); all_goals (subst hx; first | (refine ⟨_, rfl, fun ht => ?_, fun ht => ?_⟩ <;> (try simp only [bbs, beq_iff_eq, bne_iff_ne, ne_eq] at ht)) | (refine ⟨_, rfl, ?_⟩; (try simp only [tupOf])))) | refine wSkip ?_ | (refine wExit ?_; simp only [thenQ, blockQ, reduceIte, Nat.reduceEqDiff]) | refine wSeq ?_ | refine wBlock ?_)
        all_goals try (exfalso; (try simp only [bbs, beq_iff_eq, bne_iff_ne, ne_eq] at *); first | omega | exact absurd trivial (by assumption))
        refine ⟨_, Nat.sub_lt (by omega) Nat.one_pos, j + 1, x, by omega, by simp only [upd_eq, Nat.reduceEqDiff, if_false, if_true, h4, h3, h5], by simp only [upd_eq, Nat.reduceEqDiff, if_false, if_true, h4, h3, h5], by simp only [upd_eq, Nat.reduceEqDiff, if_false, if_true, h4, h3, h5], ?_⟩
        rw [hft]; exact hr
      · rw [if_neg hy] at hft
        repeat' ((fail_if_success (first | refine wAt 7 ?_)); first | ((first | refine wSeqr (fun xx hx => ?_) | refine wIf (fun xx hx => ?_) | refine wReg (fun xx hx => ?_) | (refine wRet ?_; (try simp only [thenQ, blockQ]); refine ends_by (fun xx hx => ?_))); have hc := trivial; (repeat' (simp only [hc, Nat.reduceBEq, go_sem, Nat.reduceAdd, Nat.reduceMul, Nat.reduceSub, Nat.reduceEqDiff, Nat.reduceLT, Nat.reduceLeDiff, Int.reduceEq, Int.reduceLT, Int.reduceLE, reduceIte, aresults, aresult, hp0, h4, h5, textsL, List.length_map, hg', str_eqW, hy, w1] at hx; (try (rw [guardL_if] at hx; split at hx <;> rename_i hc)))); all_goals (subst hx; first | (refine ⟨_, rfl, fun ht => ?_, fun ht => ?_⟩ <;> (try simp only [bbs, beq_iff_eq, bne_iff_ne, ne_eq] at ht)) | (refine ⟨_, rfl, ?_⟩; (try simp only [tupOf])))) | refine wSkip ?_ | (refine wExit ?_; simp only [thenQ, blockQ, reduceIte, Nat.reduceEqDiff]) | refine wSeq ?_ | refine wBlock ?_)
        all_goals try (exfalso; (try simp only [bbs, beq_iff_eq, bne_iff_ne, ne_eq] at *); first | omega | exact absurd trivial (by assumption))
        (first | refine wSeqr (fun xx hx => ?_) | refine wReg (fun xx hx => ?_)); have hc := trivial; (repeat' (simp only [hc, Nat.reduceBEq, go_sem, Nat.reduceAdd, Nat.reduceMul, Nat.reduceSub, Nat.reduceEqDiff, Nat.reduceLT, Nat.reduceLeDiff, Int.reduceEq, Int.reduceLT, Int.reduceLE, reduceIte, aresults, aresult, hp0, h3, h4, h5, textsL, hg'] at hx; (try (rw [guardL_if] at hx; split at hx <;> rename_i hc)))); generalize hq : aappend Tryd.prog _ _ _ _ = q at hx
        obtain ⟨x', K2, rfl, hacc, hg2, hk2, ho2⟩ := app_rows hq el22 zero9 by9 int22 (sz := 1) rfl (by omega) hr (m := 1) rfl (afirst_one _ _ [txcell y]) rfl (by omega) (by omega)
        clear hq
        have hc := trivial; (repeat' (simp only [hc, Nat.reduceBEq, go_sem, Nat.reduceAdd, Nat.reduceMul, Nat.reduceSub, Nat.reduceEqDiff, Nat.reduceLT, Nat.reduceLeDiff, Int.reduceEq, Int.reduceLT, Int.reduceLE, reduceIte, aresults, aresult, hp0] at hx; (try (rw [guardL_if] at hx; split at hx <;> rename_i hc)))); all_goals (subst hx; refine ⟨_, rfl, ?_⟩)
        repeat' (first | ((first | refine wSeqr (fun xx hx => ?_) | refine wIf (fun xx hx => ?_) | refine wReg (fun xx hx => ?_) | (refine wRet ?_; (try simp only [thenQ, blockQ]); refine ends_by (fun xx hx => ?_))); have hc := trivial; (repeat' (simp only [hc, Nat.reduceBEq, go_sem, Nat.reduceAdd, Nat.reduceMul, Nat.reduceSub, Nat.reduceEqDiff, Nat.reduceLT, Nat.reduceLeDiff, Int.reduceEq, Int.reduceLT, Int.reduceLE, reduceIte, aresults, aresult, hp0, h5, w1] at hx; (try (rw [guardL_if] at hx; split at hx <;> rename_i hc)))); all_goals (subst hx; first | (refine ⟨_, rfl, fun ht => ?_, fun ht => ?_⟩ <;> (try simp only [bbs, beq_iff_eq, bne_iff_ne, ne_eq] at ht)) | (refine ⟨_, rfl, ?_⟩; (try simp only [tupOf])))) | refine wSkip ?_ | (refine wExit ?_; simp only [thenQ, blockQ, reduceIte, Nat.reduceEqDiff]) | refine wSeq ?_ | refine wBlock ?_)
        all_goals try (exfalso; (try simp only [bbs, beq_iff_eq, bne_iff_ne, ne_eq] at *); first | omega | exact absurd trivial (by assumption))
        refine ⟨_, Nat.sub_lt (by omega) Nat.one_pos, j + 1, x', by omega, by simp only [upd_eq, Nat.reduceEqDiff, if_false, if_true, h4, h3, h5], by simp only [upd_eq, Nat.reduceEqDiff, if_false, if_true, h4, h3, h5], by simp only [upd_eq, Nat.reduceEqDiff, if_false, if_true, h4, h3, h5], ?_⟩
        rw [hft, List.map_append, List.length_append]
        exact hacc
    · have hj' : j = P.length := by omega
      repeat' (first | ((first | refine wSeqr (fun xx hx => ?_) | refine wIf (fun xx hx => ?_) | refine wReg (fun xx hx => ?_) | (refine wRet ?_; (try simp only [thenQ, blockQ]); refine ends_by (fun xx hx => ?_))); have hc := trivial; (repeat' (simp only [hc, Nat.reduceBEq, go_sem, Nat.reduceAdd, Nat.reduceMul, Nat.reduceSub, Nat.reduceEqDiff, Nat.reduceLT, Nat.reduceLeDiff, Int.reduceEq, Int.reduceLT, Int.reduceLE, reduceIte, aresults, aresult, hp0, h3, h4, h5, textsL, List.length_map] at hx; (try (rw [guardL_if] at hx; split at hx <;> rename_i hc)))); all_goals (subst hx; first | (refine ⟨_, rfl, fun ht => ?_, fun ht => ?_⟩ <;> (try simp only [bbs, beq_iff_eq, bne_iff_ne, ne_eq] at ht)) | (refine ⟨_, rfl, ?_⟩; (try simp only [tupOf])))) | refine wSkip ?_ | (refine wExit ?_; simp only [thenQ, blockQ, reduceIte, Nat.reduceEqDiff]) | refine wSeq ?_ | refine wBlock ?_)
      all_goals try (exfalso; (try simp only [bbs, beq_iff_eq, bne_iff_ne, ne_eq] at *); first | omega | exact absurd trivial (by assumption))
      rw [hj', List.take_length] at hr
      exact gO_texts hr
  · refine ⟨0, .lst true [], by omega, rfl, rfl, rfl, RAcc.lst⟩
theorem p_sl14Words (a : ByteArray) (hs : a.size ≤ 1048576) : pure Tryd.prog cfg0 9 Tryd.f9 [.v (.string a)] = some (textsL ((wordsL a.data.toList).map ba), true) := (pq_sl14Words a hs).1
theorem c_sl14Words (a : ByteArray) (hs : a.size ≤ 1048576) : ∀ H, call Tryd.prog cfg0 0 9 [.v (.string a)] H = some (textsL ((wordsL a.data.toList).map ba), H) :=
  call_fz Tryd.func9 rfl ok_sl14Words rfl (by simp only [fz_cons, fz_nil, go_sem, and_self]) (pq_sl14Words a hs).1
theorem o_sl14Words (a : ByteArray) (hs : a.size ≤ 1048576) : ∀ H, call Tryd.prog cfg0 1 9 [.v (.string a)] H = mat depthD (textsL ((wordsL a.data.toList).map ba)) H := fun H =>
  call_ofO Tryd.func9 rfl ok_sl14Words rfl (mapM_self fun x hx => ((show ∀ x ∈ ([.v (.string a)] : List AV), Fz depthD x by simp only [fz_cons, fz_nil, go_sem, and_self]) x hx).1 H) (pq_sl14Words a hs).2

def wC (l : List UInt8) : Int := if 3000 < l.length then 2 else 0
def wW (l : List UInt8) : List ByteArray := if 3000 < l.length then [] else (wordsL l).map ba
theorem fz_tr (c : Int) (l : List ByteArray) : Fz depthD (.agg [.v (.int .i64 c), textsL l]) := Fz.agg (n := 11) fun x hx => by
  simp only [List.mem_cons, List.not_mem_nil, or_false] at hx
  rcases hx with rfl | rfl
  · exact Fz.int _ _ _
  · exact textsL_fz 9 l
theorem ok_sWordsOf : fnOk Tryd.prog cfg0 4 Tryd.f4 = true := by kernel_rfl
theorem p_sWordsOf (a : ByteArray) (hs : a.size ≤ 1048576) : ∃ cl, pure Tryd.prog cfg0 4 Tryd.f4 [.v (.string a)] = some (.agg [.v (.int .i64 (wC a.data.toList)), textsL (wW a.data.toList)], cl) := by
  have key : ∃ v cl, v = (.agg [.v (.int .i64 (wC a.data.toList)), textsL (wW a.data.toList)] : AV) ∧ pure Tryd.prog cfg0 4 Tryd.f4 [.v (.string a)] = some (v, cl) := by
    refine pure_ex (rs := [.cell 2 24]) rfl rfl ?_
    have hp0 : ∀ b, cfg0.pol 4 b = 0 := fun b => rfl
    have hsz : a.size = a.data.toList.length := by rw [ByteArray.size]; simp
    by_cases hbig : 3000 < a.data.toList.length
    · have hbI : 3000 < (a.size : Int) := by omega
      rw [show wC a.data.toList = 2 from if_pos hbig, show wW a.data.toList = [] from if_pos hbig]
      repeat' (first | ((first | refine wSeqr (fun xx hx => ?_) | refine wIf (fun xx hx => ?_) | refine wReg (fun xx hx => ?_) | (refine wRet ?_; (try simp only [thenQ, blockQ]); refine ends_by (fun xx hx => ?_))); have hc := trivial; (repeat' (simp only [hc, Nat.reduceBEq, go_sem, Nat.reduceAdd, Nat.reduceMul, Nat.reduceSub, Nat.reduceEqDiff, Nat.reduceLT, Nat.reduceLeDiff, Int.reduceEq, Int.reduceLT, Int.reduceLE, reduceIte, aresults, aresult, hp0, hbI] at hx; (try (rw [guardL_if] at hx; split at hx <;> rename_i hc)))); all_goals (subst hx; first | (refine ⟨_, rfl, fun ht => ?_, fun ht => ?_⟩ <;> (try simp only [bbs, beq_iff_eq, bne_iff_ne, ne_eq] at ht)) | (refine ⟨_, rfl, ?_⟩; (try simp only [tupOf])))) | refine wSkip ?_ | (refine wExit ?_; simp only [thenQ, blockQ, reduceIte, Nat.reduceEqDiff]) | refine wSeq ?_ | refine wBlock ?_)
      all_goals try (exfalso; (try simp only [bbs, beq_iff_eq, bne_iff_ne, ne_eq] at *); first | omega | exact absurd trivial (by assumption))
      all_goals exact dirty rfl
    · have hbI : ¬ 3000 < (a.size : Int) := by omega
      have hw := c_sl14Words a hs
      rw [show wC a.data.toList = 0 from if_neg hbig, show wW a.data.toList = (wordsL a.data.toList).map ba from if_neg hbig]
      repeat' (first | ((first | refine wSeqr (fun xx hx => ?_) | refine wIf (fun xx hx => ?_) | refine wReg (fun xx hx => ?_) | (refine wRet ?_; (try simp only [thenQ, blockQ]); refine ends_by (fun xx hx => ?_))); have hc := trivial; (repeat' (simp only [hc, Nat.reduceBEq, go_sem, Nat.reduceAdd, Nat.reduceMul, Nat.reduceSub, Nat.reduceEqDiff, Nat.reduceLT, Nat.reduceLeDiff, Int.reduceEq, Int.reduceLT, Int.reduceLE, reduceIte, aresults, aresult, hp0, hbI, hw] at hx; (try (rw [guardL_if] at hx; split at hx <;> rename_i hc)))); all_goals (subst hx; first | (refine ⟨_, rfl, fun ht => ?_, fun ht => ?_⟩ <;> (try simp only [bbs, beq_iff_eq, bne_iff_ne, ne_eq] at ht)) | (refine ⟨_, rfl, ?_⟩; (try simp only [tupOf])))) | refine wSkip ?_ | (refine wExit ?_; simp only [thenQ, blockQ, reduceIte, Nat.reduceEqDiff]) | refine wSeq ?_ | refine wBlock ?_)
      all_goals try (exfalso; (try simp only [bbs, beq_iff_eq, bne_iff_ne, ne_eq] at *); first | omega | exact absurd trivial (by assumption))
      all_goals exact dirty (fz_deep (fz_tr _ _) _)
  obtain ⟨v, cl, rfl, hp⟩ := key
  exact ⟨cl, hp⟩
theorem c_sWordsOf (a : ByteArray) (hs : a.size ≤ 1048576) : ∀ H, call Tryd.prog cfg0 0 4 [.v (.string a)] H = some (.agg [.v (.int .i64 (wC a.data.toList)), textsL (wW a.data.toList)], H) := fun H => by
  obtain ⟨cl, hp⟩ := p_sWordsOf a hs
  exact call_fz Tryd.func4 rfl ok_sWordsOf rfl (by simp only [fz_cons, fz_nil, go_sem, and_self]) hp H

end
end Go.Proofs.YtlkoklhnodcipaaDoor
