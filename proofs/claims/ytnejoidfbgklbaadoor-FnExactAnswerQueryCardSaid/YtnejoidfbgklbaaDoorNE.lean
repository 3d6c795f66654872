/- Contracts: answers in bytes, the program's side (printed by genAC.py). Contracts: answers in bytes, the reference's side. Contracts: what a query asks for, both sides. Contracts: what a query asks for, the reference's side. -/
import Derived.Test.YtnejoidfbgklbaaDoorND
namespace Go.Proofs.YtnejoidfbgklbaaDoor
open Go Go.RowKit Go.Proofs.YtnejoidfbgklbaaDoor.Eng
set_option linter.unusedSimpArgs false
set_option linter.unusedVariables false
set_option maxRecDepth 100000
set_option maxHeartbeats 2000000
noncomputable section
theorem slR (H : Hp) (e : Env) (rs : List RecordM) (lo : Option Operand) (hi : Operand) : aslice Tryd.prog H e 23 (.lst false (rs.map encRecord)) lo (some hi) none = sliceR encRecord rs (bound e 0 lo) (natOf (opd e hi)) := aslice_R (enc := encRecord) (fun _ => rfl) u23 sz57 H e rs lo hi
attribute [go_sem] slR
theorem recs_len (l : List RecordM) : ((l.map recB).flatten).length ≤ 22 * l.length := by
  induction l with
  | nil => simp
  | cons r t ih =>
    have : (recB r).length ≤ 22 := by rw [recB_len]; split <;> omega
    simp only [List.map_cons, List.flatten_cons, List.length_append, List.length_cons]; omega
def recsB (rs : List RecordM) (j : Nat) : List Int := ((rs.take j).map recB).flatten
theorem recsB_succ {rs : List RecordM} {j : Nat} {r : RecordM} (h : rs[j]? = some r) : recsB rs (j + 1) = recsB rs j ++ recB r := by
  unfold recsB
  rw [List.take_add_one, h]
  simp
theorem recsB_len (rs : List RecordM) (j : Nat) : (recsB rs j).length ≤ 22 * rs.length := by
  have h1 := recs_len (rs.take j)
  have h2 : (rs.take j).length ≤ rs.length := by rw [List.length_take]; omega
  unfold recsB; omega
theorem racc_new {l : List Int} (H : Hp) : RAcc (H.new (l.map cell)) (.sl H.g 1 0 l.length) 1 (l.map cell) l.length := ⟨by simp, .inr ⟨H.g, by simp, rfl, new_same _ _⟩⟩
def ansH (i : List Int) (st fl ak : Int) (m : Nat) (q : List Int) : List Int := i ++ ([fl, st] ++ ((wordL ak 2 ++ (wordL m 2 ++ (wordL 0 2 ++ wordL 0 2))) ++ q))
theorem ans_eq {i q : List Int} {st : Int} {cut : Bool} {rs : List RecordM} {m : Nat} {fl ak : Int} (hm : m ≤ rs.length) (hs : 0 ≤ st ∧ st ≤ 255) (hf : fl = if cut = true then 134 else 132) (ha : ak = if st = 1 then 0 else 1) : ansH i st fl ak m q ++ recsB rs m = ansB i st cut q (rs.take m) := by
  have e1 : wordL ak 2 = [0, if st = 1 then 0 else 1] := by subst ha; split <;> decide
  have e2 : st % 256 = st := by omega
  have e3 : (rs.take m).length = m := by rw [List.length_take]; omega
  unfold ansH ansB recsB
  rw [e1, w2_0, hf, e2, e3]
  simp [List.append_assoc]
theorem fz_made {i q : List Int} {st m : Int} {rs : List RecordM} : ∀ x ∈ ([bytesL i, .v (.int .i64 st), bytesL q, .lst false (rs.map encRecord), .v (.int .i64 m)] : List AV), Fz depthD x := by
  intro x hx
  simp only [List.mem_cons, List.not_mem_nil, or_false] at hx
  rcases hx with rfl | rfl | rfl | rfl | rfl
  · exact bytesL_fz 10 _
  · exact Fz.int _ _ _
  · exact bytesL_fz 10 _
  · exact fz_rows (n := 11) (fun k => fzE_Record 10 k) rs
  · exact Fz.int _ _ _
theorem fz_rs (rs : List RecordM) : Fz depthD (.lst false (rs.map encRecord)) := fz_rows (n := 11) (fun k => fzE_Record 10 k) rs
theorem ok_imade : fnOk Tryd.prog cfg0 33 Tryd.f33 = true := by kernel_rfl
theorem pq_imade (i q : List Int) (st : Int) (rs : List RecordM) (m : Nat) (hil : i.length ≤ 1000) (hql : q.length ≤ 1000) (hrl : rs.length ≤ 100) (hml : m ≤ rs.length) (hst : 0 ≤ st ∧ st ≤ 255) (hro : ∀ r ∈ rs, recOk r) : pure Tryd.prog cfg0 33 Tryd.f33 [bytesL i, .v (.int .i64 st), bytesL q, .lst false (rs.map encRecord), .v (.int .i64 (m : Nat))] = some (bytesL (ansB i st (decide (m < rs.length)) q (rs.take m)), true) ∧ owned Tryd.prog cfg0 33 Tryd.f33 [bytesL i, .v (.int .i64 st), bytesL q, .lst false (rs.map encRecord), .v (.int .i64 (m : Nat))] = some (bytesL (ansB i st (decide (m < rs.length)) q (rs.take m))) := by
  refine both_wp (rs := [.tmp 10]) rfl rfl ?_
  have hp0 : ∀ b, cfg0.pol 33 b = (if b = 33 then 1 else 0) := fun b => rfl
  have hs8 : st % 256 = st := by omega
  have hmn : min m rs.length = m := by omega
  rcases Classical.em (st = 1) with hs1 | hs1
  · have hsT : (st = 1) = True := eq_true hs1
    rcases Classical.em (m < rs.length) with hc1 | hc1
    · have hcT : (((m : Nat) : Int) < (rs.length : Int)) = True := eq_true (by omega)
      have e := ans_eq (i := i) (q := q) (cut := decide (m < rs.length)) (fl := 134) (ak := 0) hml hst (by simp [hc1]) (by simp [hs1])
      rw [← e]
      have s4 := sh4 0 (m : Nat) 0 0 (by omega) (by omega) (by omega) (by omega)
      have hcat := ocat4 (x := bytesL i) (y := .lst true [[.v (.int .u8 134)], [.v (.int .u8 st)]]) (z := bytesL (wordL 0 2 ++ (wordL (m : Nat) 2 ++ (wordL 0 2 ++ wordL 0 2)))) (w := bytesL q) dzB dz2 dzB dzB (by simp [wordL_len]; omega) (by simp)
      have hB : (ansH i st 134 0 m q).length ≤ 2100 := by unfold ansH; simp [wordL_len]; omega
      have hBe : i ++ ([134, st] ++ ((wordL 0 2 ++ (wordL (m : Nat) 2 ++ (wordL 0 2 ++ wordL 0 2))) ++ q)) = ansH i st 134 0 m q := rfl
      rw [hBe] at hcat
      generalize ansH i st 134 0 m q = B at *
      repeat' (first | ((first | refine wSeqr ?_ | refine wIf ?_ | refine wReg ?_ | (refine wRet ?_; (try simp only [thenQ, blockQ]); refine ends_by ?_)); intro xx hx; have hc := trivial; (repeat' (simp only [hc, Nat.reduceBEq, go_sem, Nat.reduceAdd, Nat.reduceMul, Nat.reduceSub, Nat.reduceEqDiff, Nat.reduceLT, Nat.reduceLeDiff, Int.reduceEq, Int.reduceLT, Int.reduceLE, reduceIte, aresults, aresult, hp0, hsT, hcT, wrap8, hs8, aconv_int u2 u5, s4, hcat, Nat.zero_le, hml, and_self, true_and, List.drop_zero, Nat.sub_zero, List.length_map, List.length_take, hmn] at hx; (try (rw [guardL_if] at hx; split at hx <;> rename_i hc)))); all_goals (subst hx; first | (refine ⟨_, rfl, fun ht => ?_, fun ht => ?_⟩ <;> (try simp only [bbs] at ht)) | (refine ⟨_, rfl, ?_⟩; (try simp only [tupOf])))) | refine wSkip ?_ | (refine wExit ?_; simp only [thenQ, blockQ, reduceIte, Nat.reduceEqDiff]) | refine wSeq ?_ | refine wBlock ?_)
      all_goals try (exfalso; (try simp only [bbs] at *); first | omega | exact absurd trivial (by assumption))
      refine wLoop (fun k s => ∃ (j : Nat) (x : AV), j + k = m ∧ s.1 13 = x ∧ s.1 36 = .lst false ((rs.take m).map encRecord) ∧ s.1 37 = .v (.int .i64 (m : Nat)) ∧ s.1 38 = .v (.int .i64 (j : Nat)) ∧ (RAcc s.2 x 1 ((B ++ recsB rs j).map cell) (B ++ recsB rs j).length)) (fun k s hI => ?_) (m) _ ?_
      · obtain ⟨e, H⟩ := s
        obtain ⟨j, x, hj, h13, h36, h37, h38, hr⟩ := hI
        simp only at h13 h36 h37 h38 hr
        have hll := recsB_len rs j
        have hBl : (B ++ recsB rs j).length ≤ 5000 := by rw [List.length_append]; omega
        by_cases hlt : j < m
        · have hltI : ((j : Nat) : Int) < (m : Int) := by omega
          obtain ⟨r, hg, -, hm1⟩ := at_drop (l := rs) (j := j) (by omega)
          have hgt : (rs.take m)[j]? = some r := by rw [List.getElem?_take, if_pos hlt]; exact hg
          have hg' := map_at (f := encRecord) hgt
          have hen := c_iRecord_encoded r (hro r hm1)
          have hrl1 : (recB r).length ≤ 22 := by rw [recB_len]; split <;> omega
          have w1 : IntKind.wrap .i64 (((j : Nat) : Int) + 1) = ((j + 1 : Nat) : Int) := wrap_succ (by omega)
          repeat' ((fail_if_success (first | refine wAt 10 ?_)); first | ((first | refine wSeqr ?_ | refine wIf ?_ | refine wReg ?_ | (refine wRet ?_; (try simp only [thenQ, blockQ]); refine ends_by ?_)); intro xx hx; have hc := trivial; (repeat' (simp only [hc, Nat.reduceBEq, go_sem, Nat.reduceAdd, Nat.reduceMul, Nat.reduceSub, Nat.reduceEqDiff, Nat.reduceLT, Nat.reduceLeDiff, Int.reduceEq, Int.reduceLT, Int.reduceLE, reduceIte, aresults, aresult, hp0, h36, h37, h38, hltI, hg', encRecord] at hx; (try (rw [guardL_if] at hx; split at hx <;> rename_i hc)))); all_goals (subst hx; first | (refine ⟨_, rfl, fun ht => ?_, fun ht => ?_⟩ <;> (try simp only [bbs] at ht)) | (refine ⟨_, rfl, ?_⟩; (try simp only [tupOf])))) | refine wSkip ?_ | (refine wExit ?_; simp only [thenQ, blockQ, reduceIte, Nat.reduceEqDiff]) | refine wSeq ?_ | refine wBlock ?_)
          all_goals try (exfalso; (try simp only [bbs] at *); first | omega | exact absurd trivial (by assumption))
          (first | refine wSeqr ?_ | refine wReg ?_); intro xx hx; have hc := trivial; (repeat' (simp only [hc, Nat.reduceBEq, go_sem, Nat.reduceAdd, Nat.reduceMul, Nat.reduceSub, Nat.reduceEqDiff, Nat.reduceLT, Nat.reduceLeDiff, Int.reduceEq, Int.reduceLT, Int.reduceLE, reduceIte, aresults, aresult, hp0, h13, hen] at hx; (try (rw [guardL_if] at hx; split at hx <;> rename_i hc)))); generalize hq : aappend Tryd.prog _ _ _ _ = q at hx
          obtain ⟨x', K2, rfl, hacc, hg2, hk2, ho2⟩ := app_rows hq el22 zero5 by5 int22 (sz := 1) rfl (by omega) (hr.ext ⟨by simp only [Hp.set_g, Hp.new_g]; omega, fun b hb => by simp only [Hp.set_h, Hp.new_h]; (repeat' split) <;> first | omega | rfl⟩) (alen_bytes _) (afirst_bytes _ _) (by simp) (by omega) (by omega)
          clear hq
          have hc := trivial; (repeat' (simp only [hc, Nat.reduceBEq, go_sem, Nat.reduceAdd, Nat.reduceMul, Nat.reduceSub, Nat.reduceEqDiff, Nat.reduceLT, Nat.reduceLeDiff, Int.reduceEq, Int.reduceLT, Int.reduceLE, reduceIte, aresults, aresult, hp0] at hx; (try (rw [guardL_if] at hx; split at hx <;> rename_i hc)))); all_goals (subst hx; refine ⟨_, rfl, ?_⟩)
          repeat' (first | ((first | refine wSeqr ?_ | refine wIf ?_ | refine wReg ?_ | (refine wRet ?_; (try simp only [thenQ, blockQ]); refine ends_by ?_)); intro xx hx; have hc := trivial; (repeat' (simp only [hc, Nat.reduceBEq, go_sem, Nat.reduceAdd, Nat.reduceMul, Nat.reduceSub, Nat.reduceEqDiff, Nat.reduceLT, Nat.reduceLeDiff, Int.reduceEq, Int.reduceLT, Int.reduceLE, reduceIte, aresults, aresult, hp0, h38, w1] at hx; (try (rw [guardL_if] at hx; split at hx <;> rename_i hc)))); all_goals (subst hx; first | (refine ⟨_, rfl, fun ht => ?_, fun ht => ?_⟩ <;> (try simp only [bbs] at ht)) | (refine ⟨_, rfl, ?_⟩; (try simp only [tupOf])))) | refine wSkip ?_ | (refine wExit ?_; simp only [thenQ, blockQ, reduceIte, Nat.reduceEqDiff]) | refine wSeq ?_ | refine wBlock ?_)
          all_goals try (exfalso; (try simp only [bbs] at *); first | omega | exact absurd trivial (by assumption))
          refine ⟨_, Nat.sub_lt (by omega) Nat.one_pos, j + 1, x', by omega, by simp only [upd_eq, Nat.reduceEqDiff, if_false, if_true, h13, h36, h37, h38], by simp only [upd_eq, Nat.reduceEqDiff, if_false, if_true, h13, h36, h37, h38], by simp only [upd_eq, Nat.reduceEqDiff, if_false, if_true, h13, h36, h37, h38], by simp only [upd_eq, Nat.reduceEqDiff, if_false, if_true, h13, h36, h37, h38], ?_⟩
          rw [recsB_succ hg, ← List.append_assoc, List.map_append, List.length_append]
          exact hacc
        · have hltI : ¬ ((j : Nat) : Int) < (m : Int) := by omega
          have hj2 : j = m := by omega
          subst hj2
          repeat' (first | ((first | refine wSeqr ?_ | refine wIf ?_ | refine wReg ?_ | (refine wRet ?_; (try simp only [thenQ, blockQ]); refine ends_by ?_)); intro xx hx; have hc := trivial; (repeat' (simp only [hc, Nat.reduceBEq, go_sem, Nat.reduceAdd, Nat.reduceMul, Nat.reduceSub, Nat.reduceEqDiff, Nat.reduceLT, Nat.reduceLeDiff, Int.reduceEq, Int.reduceLT, Int.reduceLE, reduceIte, aresults, aresult, hp0, h13, h37, h38, hltI] at hx; (try (rw [guardL_if] at hx; split at hx <;> rename_i hc)))); all_goals (subst hx; first | (refine ⟨_, rfl, fun ht => ?_, fun ht => ?_⟩ <;> (try simp only [bbs] at ht)) | (refine ⟨_, rfl, ?_⟩; (try simp only [tupOf])))) | refine wSkip ?_ | (refine wExit ?_; simp only [thenQ, blockQ, reduceIte, Nat.reduceEqDiff]) | refine wSeq ?_ | refine wBlock ?_)
          all_goals try (exfalso; (try simp only [bbs] at *); first | omega | exact absurd trivial (by assumption))
          exact gO_bytesR hr
      · refine ⟨0, .sl Hp.nil.g 1 0 B.length, by omega, rfl, rfl, rfl, rfl, ?_⟩
        have := racc_new (l := B ++ recsB rs 0) Hp.nil
        simpa [recsB] using this
    · have hcT : (((m : Nat) : Int) < (rs.length : Int)) = False := eq_false (by omega)
      have e := ans_eq (i := i) (q := q) (cut := decide (m < rs.length)) (fl := 132) (ak := 0) hml hst (by simp [hc1]) (by simp [hs1])
      rw [← e]
      have s4 := sh4 0 (m : Nat) 0 0 (by omega) (by omega) (by omega) (by omega)
      have hcat := ocat4 (x := bytesL i) (y := .lst true [[.v (.int .u8 132)], [.v (.int .u8 st)]]) (z := bytesL (wordL 0 2 ++ (wordL (m : Nat) 2 ++ (wordL 0 2 ++ wordL 0 2)))) (w := bytesL q) dzB dz2 dzB dzB (by simp [wordL_len]; omega) (by simp)
      have hB : (ansH i st 132 0 m q).length ≤ 2100 := by unfold ansH; simp [wordL_len]; omega
      have hBe : i ++ ([132, st] ++ ((wordL 0 2 ++ (wordL (m : Nat) 2 ++ (wordL 0 2 ++ wordL 0 2))) ++ q)) = ansH i st 132 0 m q := rfl
      rw [hBe] at hcat
      generalize ansH i st 132 0 m q = B at *
      repeat' (first | ((first | refine wSeqr ?_ | refine wIf ?_ | refine wReg ?_ | (refine wRet ?_; (try simp only [thenQ, blockQ]); refine ends_by ?_)); intro xx hx; have hc := trivial; (repeat' (simp only [hc, Nat.reduceBEq, go_sem, Nat.reduceAdd, Nat.reduceMul, Nat.reduceSub, Nat.reduceEqDiff, Nat.reduceLT, Nat.reduceLeDiff, Int.reduceEq, Int.reduceLT, Int.reduceLE, reduceIte, aresults, aresult, hp0, hsT, hcT, wrap8, hs8, aconv_int u2 u5, s4, hcat, Nat.zero_le, hml, and_self, true_and, List.drop_zero, Nat.sub_zero, List.length_map, List.length_take, hmn] at hx; (try (rw [guardL_if] at hx; split at hx <;> rename_i hc)))); all_goals (subst hx; first | (refine ⟨_, rfl, fun ht => ?_, fun ht => ?_⟩ <;> (try simp only [bbs] at ht)) | (refine ⟨_, rfl, ?_⟩; (try simp only [tupOf])))) | refine wSkip ?_ | (refine wExit ?_; simp only [thenQ, blockQ, reduceIte, Nat.reduceEqDiff]) | refine wSeq ?_ | refine wBlock ?_)
      all_goals try (exfalso; (try simp only [bbs] at *); first | omega | exact absurd trivial (by assumption))
      refine wLoop (fun k s => ∃ (j : Nat) (x : AV), j + k = m ∧ s.1 13 = x ∧ s.1 36 = .lst false ((rs.take m).map encRecord) ∧ s.1 37 = .v (.int .i64 (m : Nat)) ∧ s.1 38 = .v (.int .i64 (j : Nat)) ∧ (RAcc s.2 x 1 ((B ++ recsB rs j).map cell) (B ++ recsB rs j).length)) (fun k s hI => ?_) (m) _ ?_
      · obtain ⟨e, H⟩ := s
        obtain ⟨j, x, hj, h13, h36, h37, h38, hr⟩ := hI
        simp only at h13 h36 h37 h38 hr
        have hll := recsB_len rs j
        have hBl : (B ++ recsB rs j).length ≤ 5000 := by rw [List.length_append]; omega
        by_cases hlt : j < m
        · have hltI : ((j : Nat) : Int) < (m : Int) := by omega
          obtain ⟨r, hg, -, hm1⟩ := at_drop (l := rs) (j := j) (by omega)
          have hgt : (rs.take m)[j]? = some r := by rw [List.getElem?_take, if_pos hlt]; exact hg
          have hg' := map_at (f := encRecord) hgt
          have hen := c_iRecord_encoded r (hro r hm1)
          have hrl1 : (recB r).length ≤ 22 := by rw [recB_len]; split <;> omega
          have w1 : IntKind.wrap .i64 (((j : Nat) : Int) + 1) = ((j + 1 : Nat) : Int) := wrap_succ (by omega)
          repeat' ((fail_if_success (first | refine wAt 10 ?_)); first | ((first | refine wSeqr ?_ | refine wIf ?_ | refine wReg ?_ | (refine wRet ?_; (try simp only [thenQ, blockQ]); refine ends_by ?_)); intro xx hx; have hc := trivial; (repeat' (simp only [hc, Nat.reduceBEq, go_sem, Nat.reduceAdd, Nat.reduceMul, Nat.reduceSub, Nat.reduceEqDiff, Nat.reduceLT, Nat.reduceLeDiff, Int.reduceEq, Int.reduceLT, Int.reduceLE, reduceIte, aresults, aresult, hp0, h36, h37, h38, hltI, hg', encRecord] at hx; (try (rw [guardL_if] at hx; split at hx <;> rename_i hc)))); all_goals (subst hx; first | (refine ⟨_, rfl, fun ht => ?_, fun ht => ?_⟩ <;> (try simp only [bbs] at ht)) | (refine ⟨_, rfl, ?_⟩; (try simp only [tupOf])))) | refine wSkip ?_ | (refine wExit ?_; simp only [thenQ, blockQ, reduceIte, Nat.reduceEqDiff]) | refine wSeq ?_ | refine wBlock ?_)
          all_goals try (exfalso; (try simp only [bbs] at *); first | omega | exact absurd trivial (by assumption))
          (first | refine wSeqr ?_ | refine wReg ?_); intro xx hx; have hc := trivial; (repeat' (simp only [hc, Nat.reduceBEq, go_sem, Nat.reduceAdd, Nat.reduceMul, Nat.reduceSub, Nat.reduceEqDiff, Nat.reduceLT, Nat.reduceLeDiff, Int.reduceEq, Int.reduceLT, Int.reduceLE, reduceIte, aresults, aresult, hp0, h13, hen] at hx; (try (rw [guardL_if] at hx; split at hx <;> rename_i hc)))); generalize hq : aappend Tryd.prog _ _ _ _ = q at hx
          obtain ⟨x', K2, rfl, hacc, hg2, hk2, ho2⟩ := app_rows hq el22 zero5 by5 int22 (sz := 1) rfl (by omega) (hr.ext ⟨by simp only [Hp.set_g, Hp.new_g]; omega, fun b hb => by simp only [Hp.set_h, Hp.new_h]; (repeat' split) <;> first | omega | rfl⟩) (alen_bytes _) (afirst_bytes _ _) (by simp) (by omega) (by omega)
          clear hq
          have hc := trivial; (repeat' (simp only [hc, Nat.reduceBEq, go_sem, Nat.reduceAdd, Nat.reduceMul, Nat.reduceSub, Nat.reduceEqDiff, Nat.reduceLT, Nat.reduceLeDiff, Int.reduceEq, Int.reduceLT, Int.reduceLE, reduceIte, aresults, aresult, hp0] at hx; (try (rw [guardL_if] at hx; split at hx <;> rename_i hc)))); all_goals (subst hx; refine ⟨_, rfl, ?_⟩)
          repeat' (first | ((first | refine wSeqr ?_ | refine wIf ?_ | refine wReg ?_ | (refine wRet ?_; (try simp only [thenQ, blockQ]); refine ends_by ?_)); intro xx hx; have hc := trivial; (repeat' (simp only [hc, Nat.reduceBEq, go_sem, Nat.reduceAdd, Nat.reduceMul, Nat.reduceSub, Nat.reduceEqDiff, Nat.reduceLT, Nat.reduceLeDiff, Int.reduceEq, Int.reduceLT, Int.reduceLE, reduceIte, aresults, aresult, hp0, h38, w1] at hx; (try (rw [guardL_if] at hx; split at hx <;> rename_i hc)))); all_goals (subst hx; first | (refine ⟨_, rfl, fun ht => ?_, fun ht => ?_⟩ <;> (try simp only [bbs] at ht)) | (refine ⟨_, rfl, ?_⟩; (try simp only [tupOf])))) | refine wSkip ?_ | (refine wExit ?_; simp only [thenQ, blockQ, reduceIte, Nat.reduceEqDiff]) | refine wSeq ?_ | refine wBlock ?_)
          all_goals try (exfalso; (try simp only [bbs] at *); first | omega | exact absurd trivial (by assumption))
          refine ⟨_, Nat.sub_lt (by omega) Nat.one_pos, j + 1, x', by omega, by simp only [upd_eq, Nat.reduceEqDiff, if_false, if_true, h13, h36, h37, h38], by simp only [upd_eq, Nat.reduceEqDiff, if_false, if_true, h13, h36, h37, h38], by simp only [upd_eq, Nat.reduceEqDiff, if_false, if_true, h13, h36, h37, h38], by simp only [upd_eq, Nat.reduceEqDiff, if_false, if_true, h13, h36, h37, h38], ?_⟩
          rw [recsB_succ hg, ← List.append_assoc, List.map_append, List.length_append]
          exact hacc
        · have hltI : ¬ ((j : Nat) : Int) < (m : Int) := by omega
          have hj2 : j = m := by omega
          subst hj2
          repeat' (first | ((first | refine wSeqr ?_ | refine wIf ?_ | refine wReg ?_ | (refine wRet ?_; (try simp only [thenQ, blockQ]); refine ends_by ?_)); intro xx hx; have hc := trivial; (repeat' (simp only [hc, Nat.reduceBEq, go_sem, Nat.reduceAdd, Nat.reduceMul, Nat.reduceSub, Nat.reduceEqDiff, Nat.reduceLT, Nat.reduceLeDiff, Int.reduceEq, Int.reduceLT, Int.reduceLE, reduceIte, aresults, aresult, hp0, h13, h37, h38, hltI] at hx; (try (rw [guardL_if] at hx; split at hx <;> rename_i hc)))); all_goals (subst hx; first | (refine ⟨_, rfl, fun ht => ?_, fun ht => ?_⟩ <;> (try simp only [bbs] at ht)) | (refine ⟨_, rfl, ?_⟩; (try simp only [tupOf])))) | refine wSkip ?_ | (refine wExit ?_; simp only [thenQ, blockQ, reduceIte, Nat.reduceEqDiff]) | refine wSeq ?_ | refine wBlock ?_)
          all_goals try (exfalso; (try simp only [bbs] at *); first | omega | exact absurd trivial (by assumption))
          exact gO_bytesR hr
      · refine ⟨0, .sl Hp.nil.g 1 0 B.length, by omega, rfl, rfl, rfl, rfl, ?_⟩
        have := racc_new (l := B ++ recsB rs 0) Hp.nil
        simpa [recsB] using this
  · have hsT : (st = 1) = False := eq_false hs1
    rcases Classical.em (m < rs.length) with hc1 | hc1
    · have hcT : (((m : Nat) : Int) < (rs.length : Int)) = True := eq_true (by omega)
      have e := ans_eq (i := i) (q := q) (cut := decide (m < rs.length)) (fl := 134) (ak := 1) hml hst (by simp [hc1]) (by simp [hs1])
      rw [← e]
      have s4 := sh4 1 (m : Nat) 0 0 (by omega) (by omega) (by omega) (by omega)
      have hcat := ocat4 (x := bytesL i) (y := .lst true [[.v (.int .u8 134)], [.v (.int .u8 st)]]) (z := bytesL (wordL 1 2 ++ (wordL (m : Nat) 2 ++ (wordL 0 2 ++ wordL 0 2)))) (w := bytesL q) dzB dz2 dzB dzB (by simp [wordL_len]; omega) (by simp)
      have hB : (ansH i st 134 1 m q).length ≤ 2100 := by unfold ansH; simp [wordL_len]; omega
      have hBe : i ++ ([134, st] ++ ((wordL 1 2 ++ (wordL (m : Nat) 2 ++ (wordL 0 2 ++ wordL 0 2))) ++ q)) = ansH i st 134 1 m q := rfl
      rw [hBe] at hcat
      generalize ansH i st 134 1 m q = B at *
      repeat' (first | ((first | refine wSeqr ?_ | refine wIf ?_ | refine wReg ?_ | (refine wRet ?_; (try simp only [thenQ, blockQ]); refine ends_by ?_)); intro xx hx; have hc := trivial; (repeat' (simp only [hc, Nat.reduceBEq, go_sem, Nat.reduceAdd, Nat.reduceMul, Nat.reduceSub, Nat.reduceEqDiff, Nat.reduceLT, Nat.reduceLeDiff, Int.reduceEq, Int.reduceLT, Int.reduceLE, reduceIte, aresults, aresult, hp0, hsT, hcT, wrap8, hs8, aconv_int u2 u5, s4, hcat, Nat.zero_le, hml, and_self, true_and, List.drop_zero, Nat.sub_zero, List.length_map, List.length_take, hmn] at hx; (try (rw [guardL_if] at hx; split at hx <;> rename_i hc)))); all_goals (subst hx; first | (refine ⟨_, rfl, fun ht => ?_, fun ht => ?_⟩ <;> (try simp only [bbs] at ht)) | (refine ⟨_, rfl, ?_⟩; (try simp only [tupOf])))) | refine wSkip ?_ | (refine wExit ?_; simp only [thenQ, blockQ, reduceIte, Nat.reduceEqDiff]) | refine wSeq ?_ | refine wBlock ?_)
      all_goals try (exfalso; (try simp only [bbs] at *); first | omega | exact absurd trivial (by assumption))
      refine wLoop (fun k s => ∃ (j : Nat) (x : AV), j + k = m ∧ s.1 13 = x ∧ s.1 36 = .lst false ((rs.take m).map encRecord) ∧ s.1 37 = .v (.int .i64 (m : Nat)) ∧ s.1 38 = .v (.int .i64 (j : Nat)) ∧ (RAcc s.2 x 1 ((B ++ recsB rs j).map cell) (B ++ recsB rs j).length)) (fun k s hI => ?_) (m) _ ?_
      · obtain ⟨e, H⟩ := s
        obtain ⟨j, x, hj, h13, h36, h37, h38, hr⟩ := hI
        simp only at h13 h36 h37 h38 hr
        have hll := recsB_len rs j
        have hBl : (B ++ recsB rs j).length ≤ 5000 := by rw [List.length_append]; omega
        by_cases hlt : j < m
        · have hltI : ((j : Nat) : Int) < (m : Int) := by omega
          obtain ⟨r, hg, -, hm1⟩ := at_drop (l := rs) (j := j) (by omega)
          have hgt : (rs.take m)[j]? = some r := by rw [List.getElem?_take, if_pos hlt]; exact hg
          have hg' := map_at (f := encRecord) hgt
          have hen := c_iRecord_encoded r (hro r hm1)
          have hrl1 : (recB r).length ≤ 22 := by rw [recB_len]; split <;> omega
          have w1 : IntKind.wrap .i64 (((j : Nat) : Int) + 1) = ((j + 1 : Nat) : Int) := wrap_succ (by omega)
          repeat' ((fail_if_success (first | refine wAt 10 ?_)); first | ((first | refine wSeqr ?_ | refine wIf ?_ | refine wReg ?_ | (refine wRet ?_; (try simp only [thenQ, blockQ]); refine ends_by ?_)); intro xx hx; have hc := trivial; (repeat' (simp only [hc, Nat.reduceBEq, go_sem, Nat.reduceAdd, Nat.reduceMul, Nat.reduceSub, Nat.reduceEqDiff, Nat.reduceLT, Nat.reduceLeDiff, Int.reduceEq, Int.reduceLT, Int.reduceLE, reduceIte, aresults, aresult, hp0, h36, h37, h38, hltI, hg', encRecord] at hx; (try (rw [guardL_if] at hx; split at hx <;> rename_i hc)))); all_goals (subst hx; first | (refine ⟨_, rfl, fun ht => ?_, fun ht => ?_⟩ <;> (try simp only [bbs] at ht)) | (refine ⟨_, rfl, ?_⟩; (try simp only [tupOf])))) | refine wSkip ?_ | (refine wExit ?_; simp only [thenQ, blockQ, reduceIte, Nat.reduceEqDiff]) | refine wSeq ?_ | refine wBlock ?_)
          all_goals try (exfalso; (try simp only [bbs] at *); first | omega | exact absurd trivial (by assumption))
          (first | refine wSeqr ?_ | refine wReg ?_); intro xx hx; have hc := trivial; (repeat' (simp only [hc, Nat.reduceBEq, go_sem, Nat.reduceAdd, Nat.reduceMul, Nat.reduceSub, Nat.reduceEqDiff, Nat.reduceLT, Nat.reduceLeDiff, Int.reduceEq, Int.reduceLT, Int.reduceLE, reduceIte, aresults, aresult, hp0, h13, hen] at hx; (try (rw [guardL_if] at hx; split at hx <;> rename_i hc)))); generalize hq : aappend Tryd.prog _ _ _ _ = q at hx
          obtain ⟨x', K2, rfl, hacc, hg2, hk2, ho2⟩ := app_rows hq el22 zero5 by5 int22 (sz := 1) rfl (by omega) (hr.ext ⟨by simp only [Hp.set_g, Hp.new_g]; omega, fun b hb => by simp only [Hp.set_h, Hp.new_h]; (repeat' split) <;> first | omega | rfl⟩) (alen_bytes _) (afirst_bytes _ _) (by simp) (by omega) (by omega)
          clear hq
          have hc := trivial; (repeat' (simp only [hc, Nat.reduceBEq, go_sem, Nat.reduceAdd, Nat.reduceMul, Nat.reduceSub, Nat.reduceEqDiff, Nat.reduceLT, Nat.reduceLeDiff, Int.reduceEq, Int.reduceLT, Int.reduceLE, reduceIte, aresults, aresult, hp0] at hx; (try (rw [guardL_if] at hx; split at hx <;> rename_i hc)))); all_goals (subst hx; refine ⟨_, rfl, ?_⟩)
          repeat' (first | ((first | refine wSeqr ?_ | refine wIf ?_ | refine wReg ?_ | (refine wRet ?_; (try simp only [thenQ, blockQ]); refine ends_by ?_)); intro xx hx; have hc := trivial; (repeat' (simp only [hc, Nat.reduceBEq, go_sem, Nat.reduceAdd, Nat.reduceMul, Nat.reduceSub, Nat.reduceEqDiff, Nat.reduceLT, Nat.reduceLeDiff, Int.reduceEq, Int.reduceLT, Int.reduceLE, reduceIte, aresults, aresult, hp0, h38, w1] at hx; (try (rw [guardL_if] at hx; split at hx <;> rename_i hc)))); all_goals (subst hx; first | (refine ⟨_, rfl, fun ht => ?_, fun ht => ?_⟩ <;> (try simp only [bbs] at ht)) | (refine ⟨_, rfl, ?_⟩; (try simp only [tupOf])))) | refine wSkip ?_ | (refine wExit ?_; simp only [thenQ, blockQ, reduceIte, Nat.reduceEqDiff]) | refine wSeq ?_ | refine wBlock ?_)
          all_goals try (exfalso; (try simp only [bbs] at *); first | omega | exact absurd trivial (by assumption))
          refine ⟨_, Nat.sub_lt (by omega) Nat.one_pos, j + 1, x', by omega, by simp only [upd_eq, Nat.reduceEqDiff, if_false, if_true, h13, h36, h37, h38], by simp only [upd_eq, Nat.reduceEqDiff, if_false, if_true, h13, h36, h37, h38], by simp only [upd_eq, Nat.reduceEqDiff, if_false, if_true, h13, h36, h37, h38], by simp only [upd_eq, Nat.reduceEqDiff, if_false, if_true, h13, h36, h37, h38], ?_⟩
          rw [recsB_succ hg, ← List.append_assoc, List.map_append, List.length_append]
          exact hacc
        · have hltI : ¬ ((j : Nat) : Int) < (m : Int) := by omega
          have hj2 : j = m := by omega
          subst hj2
          repeat' (first | ((first | refine wSeqr ?_ | refine wIf ?_ | refine wReg ?_ | (refine wRet ?_; (try simp only [thenQ, blockQ]); refine ends_by ?_)); intro xx hx; have hc := trivial; (repeat' (simp only [hc, Nat.reduceBEq, go_sem, Nat.reduceAdd, Nat.reduceMul, Nat.reduceSub, Nat.reduceEqDiff, Nat.reduceLT, Nat.reduceLeDiff, Int.reduceEq, Int.reduceLT, Int.reduceLE, reduceIte, aresults, aresult, hp0, h13, h37, h38, hltI] at hx; (try (rw [guardL_if] at hx; split at hx <;> rename_i hc)))); all_goals (subst hx; first | (refine ⟨_, rfl, fun ht => ?_, fun ht => ?_⟩ <;> (try simp only [bbs] at ht)) | (refine ⟨_, rfl, ?_⟩; (try simp only [tupOf])))) | refine wSkip ?_ | (refine wExit ?_; simp only [thenQ, blockQ, reduceIte, Nat.reduceEqDiff]) | refine wSeq ?_ | refine wBlock ?_)
          all_goals try (exfalso; (try simp only [bbs] at *); first | omega | exact absurd trivial (by assumption))
          exact gO_bytesR hr
      · refine ⟨0, .sl Hp.nil.g 1 0 B.length, by omega, rfl, rfl, rfl, rfl, ?_⟩
        have := racc_new (l := B ++ recsB rs 0) Hp.nil
        simpa [recsB] using this
    · have hcT : (((m : Nat) : Int) < (rs.length : Int)) = False := eq_false (by omega)
      have e := ans_eq (i := i) (q := q) (cut := decide (m < rs.length)) (fl := 132) (ak := 1) hml hst (by simp [hc1]) (by simp [hs1])
      rw [← e]
      have s4 := sh4 1 (m : Nat) 0 0 (by omega) (by omega) (by omega) (by omega)
      have hcat := ocat4 (x := bytesL i) (y := .lst true [[.v (.int .u8 132)], [.v (.int .u8 st)]]) (z := bytesL (wordL 1 2 ++ (wordL (m : Nat) 2 ++ (wordL 0 2 ++ wordL 0 2)))) (w := bytesL q) dzB dz2 dzB dzB (by simp [wordL_len]; omega) (by simp)
      have hB : (ansH i st 132 1 m q).length ≤ 2100 := by unfold ansH; simp [wordL_len]; omega
      have hBe : i ++ ([132, st] ++ ((wordL 1 2 ++ (wordL (m : Nat) 2 ++ (wordL 0 2 ++ wordL 0 2))) ++ q)) = ansH i st 132 1 m q := rfl
      rw [hBe] at hcat
      generalize ansH i st 132 1 m q = B at *
      repeat' (first | ((first | refine wSeqr ?_ | refine wIf ?_ | refine wReg ?_ | (refine wRet ?_; (try simp only [thenQ, blockQ]); refine ends_by ?_)); intro xx hx; have hc := trivial; (repeat' (simp only [hc, Nat.reduceBEq, go_sem, Nat.reduceAdd, Nat.reduceMul, Nat.reduceSub, Nat.reduceEqDiff, Nat.reduceLT, Nat.reduceLeDiff, Int.reduceEq, Int.reduceLT, Int.reduceLE, reduceIte, aresults, aresult, hp0, hsT, hcT, wrap8, hs8, aconv_int u2 u5, s4, hcat, Nat.zero_le, hml, and_self, true_and, List.drop_zero, Nat.sub_zero, List.length_map, List.length_take, hmn] at hx; (try (rw [guardL_if] at hx; split at hx <;> rename_i hc)))); all_goals (subst hx; first | (refine ⟨_, rfl, fun ht => ?_, fun ht => ?_⟩ <;> (try simp only [bbs] at ht)) | (refine ⟨_, rfl, ?_⟩; (try simp only [tupOf])))) | refine wSkip ?_ | (refine wExit ?_; simp only [thenQ, blockQ, reduceIte, Nat.reduceEqDiff]) | refine wSeq ?_ | refine wBlock ?_)
      all_goals try (exfalso; (try simp only [bbs] at *); first | omega | exact absurd trivial (by assumption))
      refine wLoop (fun k s => ∃ (j : Nat) (x : AV), j + k = m ∧ s.1 13 = x ∧ s.1 36 = .lst false ((rs.take m).map encRecord) ∧ s.1 37 = .v (.int .i64 (m : Nat)) ∧ s.1 38 = .v (.int .i64 (j : Nat)) ∧ (RAcc s.2 x 1 ((B ++ recsB rs j).map cell) (B ++ recsB rs j).length)) (fun k s hI => ?_) (m) _ ?_
      · obtain ⟨e, H⟩ := s
        obtain ⟨j, x, hj, h13, h36, h37, h38, hr⟩ := hI
        simp only at h13 h36 h37 h38 hr
        have hll := recsB_len rs j
        have hBl : (B ++ recsB rs j).length ≤ 5000 := by rw [List.length_append]; omega
        by_cases hlt : j < m
        · have hltI : ((j : Nat) : Int) < (m : Int) := by omega
          obtain ⟨r, hg, -, hm1⟩ := at_drop (l := rs) (j := j) (by omega)
          have hgt : (rs.take m)[j]? = some r := by rw [List.getElem?_take, if_pos hlt]; exact hg
          have hg' := map_at (f := encRecord) hgt
          have hen := c_iRecord_encoded r (hro r hm1)
          have hrl1 : (recB r).length ≤ 22 := by rw [recB_len]; split <;> omega
          have w1 : IntKind.wrap .i64 (((j : Nat) : Int) + 1) = ((j + 1 : Nat) : Int) := wrap_succ (by omega)
          repeat' ((fail_if_success (first | refine wAt 10 ?_)); first | ((first | refine wSeqr ?_ | refine wIf ?_ | refine wReg ?_ | (refine wRet ?_; (try simp only [thenQ, blockQ]); refine ends_by ?_)); intro xx hx; have hc := trivial; (repeat' (simp only [hc, Nat.reduceBEq, go_sem, Nat.reduceAdd, Nat.reduceMul, Nat.reduceSub, Nat.reduceEqDiff, Nat.reduceLT, Nat.reduceLeDiff, Int.reduceEq, Int.reduceLT, Int.reduceLE, reduceIte, aresults, aresult, hp0, h36, h37, h38, hltI, hg', encRecord] at hx; (try (rw [guardL_if] at hx; split at hx <;> rename_i hc)))); all_goals (subst hx; first | (refine ⟨_, rfl, fun ht => ?_, fun ht => ?_⟩ <;> (try simp only [bbs] at ht)) | (refine ⟨_, rfl, ?_⟩; (try simp only [tupOf])))) | refine wSkip ?_ | (refine wExit ?_; simp only [thenQ, blockQ, reduceIte, Nat.reduceEqDiff]) | refine wSeq ?_ | refine wBlock ?_)
          all_goals try (exfalso; (try simp only [bbs] at *); first | omega | exact absurd trivial (by assumption))
          (first | refine wSeqr ?_ | refine wReg ?_); intro xx hx; have hc := trivial; (repeat' (simp only [hc, Nat.reduceBEq, go_sem, Nat.reduceAdd, Nat.reduceMul, Nat.reduceSub, Nat.reduceEqDiff, Nat.reduceLT, Nat.reduceLeDiff, Int.reduceEq, Int.reduceLT, Int.reduceLE, reduceIte, aresults, aresult, hp0, h13, hen] at hx; (try (rw [guardL_if] at hx; split at hx <;> rename_i hc)))); generalize hq : aappend Tryd.prog _ _ _ _ = q at hx
          obtain ⟨x', K2, rfl, hacc, hg2, hk2, ho2⟩ := app_rows hq el22 zero5 by5 int22 (sz := 1) rfl (by omega) (hr.ext ⟨by simp only [Hp.set_g, Hp.new_g]; omega, fun b hb => by simp only [Hp.set_h, Hp.new_h]; (repeat' split) <;> first | omega | rfl⟩) (alen_bytes _) (afirst_bytes _ _) (by simp) (by omega) (by omega)
          clear hq
          have hc := trivial; (repeat' (simp only [hc, Nat.reduceBEq, go_sem, Nat.reduceAdd, Nat.reduceMul, Nat.reduceSub, Nat.reduceEqDiff, Nat.reduceLT, Nat.reduceLeDiff, Int.reduceEq, Int.reduceLT, Int.reduceLE, reduceIte, aresults, aresult, hp0] at hx; (try (rw [guardL_if] at hx; split at hx <;> rename_i hc)))); all_goals (subst hx; refine ⟨_, rfl, ?_⟩)
          repeat' (first | ((first | refine wSeqr ?_ | refine wIf ?_ | refine wReg ?_ | (refine wRet ?_; (try simp only [thenQ, blockQ]); refine ends_by ?_)); intro xx hx; have hc := trivial; (repeat' (simp only [hc, Nat.reduceBEq, go_sem, Nat.reduceAdd, Nat.reduceMul, Nat.reduceSub, Nat.reduceEqDiff, Nat.reduceLT, Nat.reduceLeDiff, Int.reduceEq, Int.reduceLT, Int.reduceLE, reduceIte, aresults, aresult, hp0, h38, w1] at hx; (try (rw [guardL_if] at hx; split at hx <;> rename_i hc)))); all_goals (subst hx; first | (refine ⟨_, rfl, fun ht => ?_, fun ht => ?_⟩ <;> (try simp only [bbs] at ht)) | (refine ⟨_, rfl, ?_⟩; (try simp only [tupOf])))) | refine wSkip ?_ | (refine wExit ?_; simp only [thenQ, blockQ, reduceIte, Nat.reduceEqDiff]) | refine wSeq ?_ | refine wBlock ?_)
          all_goals try (exfalso; (try simp only [bbs] at *); first | omega | exact absurd trivial (by assumption))
          refine ⟨_, Nat.sub_lt (by omega) Nat.one_pos, j + 1, x', by omega, by simp only [upd_eq, Nat.reduceEqDiff, if_false, if_true, h13, h36, h37, h38], by simp only [upd_eq, Nat.reduceEqDiff, if_false, if_true, h13, h36, h37, h38], by simp only [upd_eq, Nat.reduceEqDiff, if_false, if_true, h13, h36, h37, h38], by simp only [upd_eq, Nat.reduceEqDiff, if_false, if_true, h13, h36, h37, h38], ?_⟩
          rw [recsB_succ hg, ← List.append_assoc, List.map_append, List.length_append]
          exact hacc
        · have hltI : ¬ ((j : Nat) : Int) < (m : Int) := by omega
          have hj2 : j = m := by omega
          subst hj2
          repeat' (first | ((first | refine wSeqr ?_ | refine wIf ?_ | refine wReg ?_ | (refine wRet ?_; (try simp only [thenQ, blockQ]); refine ends_by ?_)); intro xx hx; have hc := trivial; (repeat' (simp only [hc, Nat.reduceBEq, go_sem, Nat.reduceAdd, Nat.reduceMul, Nat.reduceSub, Nat.reduceEqDiff, Nat.reduceLT, Nat.reduceLeDiff, Int.reduceEq, Int.reduceLT, Int.reduceLE, reduceIte, aresults, aresult, hp0, h13, h37, h38, hltI] at hx; (try (rw [guardL_if] at hx; split at hx <;> rename_i hc)))); all_goals (subst hx; first | (refine ⟨_, rfl, fun ht => ?_, fun ht => ?_⟩ <;> (try simp only [bbs] at ht)) | (refine ⟨_, rfl, ?_⟩; (try simp only [tupOf])))) | refine wSkip ?_ | (refine wExit ?_; simp only [thenQ, blockQ, reduceIte, Nat.reduceEqDiff]) | refine wSeq ?_ | refine wBlock ?_)
          all_goals try (exfalso; (try simp only [bbs] at *); first | omega | exact absurd trivial (by assumption))
          exact gO_bytesR hr
      · refine ⟨0, .sl Hp.nil.g 1 0 B.length, by omega, rfl, rfl, rfl, rfl, ?_⟩
        have := racc_new (l := B ++ recsB rs 0) Hp.nil
        simpa [recsB] using this
theorem p_imade (i q : List Int) (st : Int) (rs : List RecordM) (m : Nat) (hil : i.length ≤ 1000) (hql : q.length ≤ 1000) (hrl : rs.length ≤ 100) (hml : m ≤ rs.length) (hst : 0 ≤ st ∧ st ≤ 255) (hro : ∀ r ∈ rs, recOk r) : pure Tryd.prog cfg0 33 Tryd.f33 [bytesL i, .v (.int .i64 st), bytesL q, .lst false (rs.map encRecord), .v (.int .i64 (m : Nat))] = some (bytesL (ansB i st (decide (m < rs.length)) q (rs.take m)), true) := (pq_imade i q st rs m hil hql hrl hml hst hro).1
theorem c_imade (i q : List Int) (st : Int) (rs : List RecordM) (m : Nat) (hil : i.length ≤ 1000) (hql : q.length ≤ 1000) (hrl : rs.length ≤ 100) (hml : m ≤ rs.length) (hst : 0 ≤ st ∧ st ≤ 255) (hro : ∀ r ∈ rs, recOk r) : ∀ H, call Tryd.prog cfg0 0 33 [bytesL i, .v (.int .i64 st), bytesL q, .lst false (rs.map encRecord), .v (.int .i64 (m : Nat))] H = some (bytesL (ansB i st (decide (m < rs.length)) q (rs.take m)), H) :=
  call_fz Tryd.func33 rfl ok_imade rfl (by simp only [fz_cons, fz_nil, go_sem, fz_rs, and_self]) (pq_imade i q st rs m hil hql hrl hml hst hro).1
theorem o_imade (i q : List Int) (st : Int) (rs : List RecordM) (m : Nat) (hil : i.length ≤ 1000) (hql : q.length ≤ 1000) (hrl : rs.length ≤ 100) (hml : m ≤ rs.length) (hst : 0 ≤ st ∧ st ≤ 255) (hro : ∀ r ∈ rs, recOk r) : ∀ H, call Tryd.prog cfg0 1 33 [bytesL i, .v (.int .i64 st), bytesL q, .lst false (rs.map encRecord), .v (.int .i64 (m : Nat))] H = mat depthD (bytesL (ansB i st (decide (m < rs.length)) q (rs.take m))) H := fun H =>
  call_ofO Tryd.func33 rfl ok_imade rfl (mapM_self fun x hx => ((show ∀ x ∈ ([bytesL i, .v (.int .i64 st), bytesL q, .lst false (rs.map encRecord), .v (.int .i64 (m : Nat))] : List AV), Fz depthD x by simp only [fz_cons, fz_nil, go_sem, fz_rs, and_self]) x hx).1 H) (pq_imade i q st rs m hil hql hrl hml hst hro).2

end
end Go.Proofs.YtnejoidfbgklbaaDoor
namespace Go.Proofs.YtnejoidfbgklbaaDoor
open Go Go.RowKit Go.Proofs.YtnejoidfbgklbaaDoor.Eng
set_option linter.unusedSimpArgs false
set_option linter.unusedVariables false
set_option maxRecDepth 100000
set_option maxHeartbeats 2000000
noncomputable section
/-- What holds between two parts of the code. -/
theorem wMid {P : Program} {cfg : Cfg} {fid : Nat} {c : Code} {s : St} {K : St → Prop} {Q0 : AX → St → Prop} (R : St → Prop) (h1 : Wp P cfg fid c s (thenQ R Q0)) (h2 : ∀ s, R s → K s) : Wp P cfg fid c s (thenQ K Q0) := wMono h1 fun x s h => by
  cases x with
  | normal => exact h2 s h
  | exit id => exact h
  | ret => exact h
theorem o_copy2 (a b : Int) : ∀ H, call Tryd.prog cfg0 1 25 [bytesL [a, b]] H = some (.sl H.g 1 0 [a, b].length, H.new ([a, b].map cell)) := fun H => by
  rw [o_sl1Copy [a, b] (by simp)]; exact mat_bytes 10 _ (by simp) H
/-- A slice at the head of a block that it fills. -/
def SlF (H : Hp) (x : AV) (l : List Int) : Prop := ∃ p, p < H.g ∧ x = .sl p 1 0 l.length ∧ H.h p = some (l.map cell)
theorem SlF.racc {H : Hp} {x : AV} {l : List Int} (h : SlF H x l) : RAcc H x 1 (l.map cell) l.length := by
  obtain ⟨p, h1, rfl, h2⟩ := h
  exact ⟨by simp, .inr ⟨p, h1, rfl, h2⟩⟩
theorem c_pairN {n : Nat} (hn : n ≤ 1000) : ∀ H, call Tryd.prog cfg0 0 59 [.v (.int .i64 (n : Nat))] H = some (bytesL (wordL (n : Nat) 2), H) := c_sl10Pair (n : Nat) (by omega)
theorem ok_sl10Answer : fnOk Tryd.prog cfg0 29 Tryd.f29 = true := by kernel_rfl
theorem pq_sl10Answer (a b : Int) (w : List Int) (st : Int) (cut : Bool) (rs : List RecordM) (hql : w.length ≤ 1000) (hrl : rs.length ≤ 100) (hst : 0 ≤ st ∧ st ≤ 255) (hro : ∀ r ∈ rs, recOk r) : pure Tryd.prog cfg0 29 Tryd.f29 [bytesL [a, b], .v (.int .i64 st), .v (.bool cut), bytesL w, .lst false (rs.map encRecord)] = some (bytesL (ansB [a, b] st cut w rs), true) ∧ owned Tryd.prog cfg0 29 Tryd.f29 [bytesL [a, b], .v (.int .i64 st), .v (.bool cut), bytesL w, .lst false (rs.map encRecord)] = some (bytesL (ansB [a, b] st cut w rs)) := by
  refine both_wp (rs := [.tmp 10]) rfl rfl ?_
  have hp0 : ∀ b, cfg0.pol 29 b = (if b = 14 then 1 else 0) := fun b => rfl
  have hs8 : st % 256 = st := by omega
  have q1 := fun H c n => apB (y := .lst true [[.v (.int .u8 132)], [.v (.int .u8 st)], [.v (.int .u8 0)], [.v (.int .u8 1)]]) (l := [132, st, 0, 1]) ⟨true, rfl⟩ (by simp) [a, b] (by simp) H c n
  have hcp := o_copy2 a b
  repeat' ((fail_if_success (first | refine wAt 2 ?_)); first | ((first | refine wSeqr ?_ | refine wIf ?_ | refine wReg ?_ | (refine wRet ?_; (try simp only [thenQ, blockQ]); refine ends_by ?_)); intro xx hx; have hc := trivial; (repeat' (simp only [hc, Nat.reduceBEq, go_sem, Nat.reduceAdd, Nat.reduceMul, Nat.reduceSub, Nat.reduceEqDiff, Nat.reduceLT, Nat.reduceLeDiff, Int.reduceEq, Int.reduceLT, Int.reduceLE, reduceIte, aresults, aresult, hp0, hcp, wrap8, hs8, aconv_int u2 u5, q1] at hx; (try (rw [guardL_if] at hx; split at hx <;> rename_i hc)))); all_goals (subst hx; first | (refine ⟨_, rfl, fun ht => ?_, fun ht => ?_⟩ <;> (try simp only [bbs] at ht)) | (refine ⟨_, rfl, ?_⟩; (try simp only [tupOf])))) | refine wSkip ?_ | (refine wExit ?_; simp only [thenQ, blockQ, reduceIte, Nat.reduceEqDiff]) | refine wSeq ?_ | refine wBlock ?_)
  all_goals try (exfalso; (try simp only [bbs] at *); first | omega | exact absurd trivial (by assumption))
  refine wMid (fun s => s.1 1 = .v (.int .i64 st) ∧ s.1 3 = bytesL w ∧ s.1 4 = .lst false (rs.map encRecord) ∧ SlF s.2 (s.1 11) [a, b, if cut = true then 134 else 132, st, 0, 1]) ?_ ?_
  · have hlt2 : (2 < ([a, b] ++ [132, st, 0, 1]).length) = True := eq_true (by simp)
    cases cut with
    | true =>
      repeat' (first | ((first | refine wSeqr ?_ | refine wIf ?_ | refine wReg ?_ | (refine wRet ?_; (try simp only [thenQ, blockQ]); refine ends_by ?_)); intro xx hx; have hc := trivial; (repeat' (simp only [hc, Nat.reduceBEq, go_sem, Nat.reduceAdd, Nat.reduceMul, Nat.reduceSub, Nat.reduceEqDiff, Nat.reduceLT, Nat.reduceLeDiff, Int.reduceEq, Int.reduceLT, Int.reduceLE, reduceIte, aresults, aresult, hp0, hlt2, Option.isSome_some] at hx; (try (rw [guardL_if] at hx; split at hx <;> rename_i hc)))); all_goals (subst hx; first | (refine ⟨_, rfl, fun ht => ?_, fun ht => ?_⟩ <;> (try simp only [bbs] at ht)) | (refine ⟨_, rfl, ?_⟩; (try simp only [tupOf])))) | refine wSkip ?_ | (refine wExit ?_; simp only [thenQ, blockQ, reduceIte, Nat.reduceEqDiff]) | refine wSeq ?_ | refine wBlock ?_)
      all_goals try (exfalso; (try simp only [bbs] at *); first | omega | exact absurd trivial (by assumption))
      show (_ = _) ∧ (_ = _) ∧ (_ = _) ∧ SlF _ _ _
      exact ⟨rfl, rfl, rfl, 1, show (1 : Nat) < 2 by omega, rfl, rfl⟩
    | false =>
      repeat' (first | ((first | refine wSeqr ?_ | refine wIf ?_ | refine wReg ?_ | (refine wRet ?_; (try simp only [thenQ, blockQ]); refine ends_by ?_)); intro xx hx; have hc := trivial; (repeat' (simp only [hc, Nat.reduceBEq, go_sem, Nat.reduceAdd, Nat.reduceMul, Nat.reduceSub, Nat.reduceEqDiff, Nat.reduceLT, Nat.reduceLeDiff, Int.reduceEq, Int.reduceLT, Int.reduceLE, reduceIte, aresults, aresult, hp0, hlt2, Option.isSome_some] at hx; (try (rw [guardL_if] at hx; split at hx <;> rename_i hc)))); all_goals (subst hx; first | (refine ⟨_, rfl, fun ht => ?_, fun ht => ?_⟩ <;> (try simp only [bbs] at ht)) | (refine ⟨_, rfl, ?_⟩; (try simp only [tupOf])))) | refine wSkip ?_ | (refine wExit ?_; simp only [thenQ, blockQ, reduceIte, Nat.reduceEqDiff]) | refine wSeq ?_ | refine wBlock ?_)
      all_goals try (exfalso; (try simp only [bbs] at *); first | omega | exact absurd trivial (by assumption))
      show (_ = _) ∧ (_ = _) ∧ (_ = _) ∧ SlF _ _ _
      exact ⟨rfl, rfl, rfl, 1, show (1 : Nat) < 2 by omega, rfl, rfl⟩
  rintro ⟨e, H⟩ ⟨h1, h3, h4, p, hpg, h11, hh⟩
  simp only at h1 h3 h4 hpg h11 hh
  show Wp _ _ _ _ _ _
  have hans : [a, b, if cut = true then 134 else 132, st, 0, if st = 1 then 0 else 1] ++ (wordL (rs.length : Nat) 2 ++ ([0, 0, 0, 0] ++ w)) ++ recsB rs rs.length = ansB [a, b] st cut w rs := by
    unfold ansB recsB
    rw [hs8, List.take_length]
    simp [List.append_assoc]
  generalize (if cut = true then (134 : Int) else 132) = fl at *
  repeat' ((fail_if_success (first | refine wAt 4 ?_)); first | ((first | refine wSeqr ?_ | refine wIf ?_ | refine wReg ?_ | (refine wRet ?_; (try simp only [thenQ, blockQ]); refine ends_by ?_)); intro xx hx; have hc := trivial; (repeat' (simp only [hc, Nat.reduceBEq, go_sem, Nat.reduceAdd, Nat.reduceMul, Nat.reduceSub, Nat.reduceEqDiff, Nat.reduceLT, Nat.reduceLeDiff, Int.reduceEq, Int.reduceLT, Int.reduceLE, reduceIte, aresults, aresult, hp0] at hx; (try (rw [guardL_if] at hx; split at hx <;> rename_i hc)))); all_goals (subst hx; first | (refine ⟨_, rfl, fun ht => ?_, fun ht => ?_⟩ <;> (try simp only [bbs] at ht)) | (refine ⟨_, rfl, ?_⟩; (try simp only [tupOf])))) | refine wSkip ?_ | (refine wExit ?_; simp only [thenQ, blockQ, reduceIte, Nat.reduceEqDiff]) | refine wSeq ?_ | refine wBlock ?_)
  refine wMid (fun s => s.1 3 = bytesL w ∧ s.1 4 = .lst false (rs.map encRecord) ∧ SlF s.2 (s.1 11) [a, b, fl, st, 0, if st = 1 then 0 else 1]) ?_ ?_
  · have hlt5 : (5 < [a, b, fl, st, 0, 1].length) = True := eq_true (by simp)
    rcases Classical.em (st = 1) with hs1 | hs1
    · have hsT : (st = 1) = True := eq_true hs1
      rw [if_pos hs1]
      repeat' (first | ((first | refine wSeqr ?_ | refine wIf ?_ | refine wReg ?_ | (refine wRet ?_; (try simp only [thenQ, blockQ]); refine ends_by ?_)); intro xx hx; have hc := trivial; (repeat' (simp only [hc, Nat.reduceBEq, go_sem, Nat.reduceAdd, Nat.reduceMul, Nat.reduceSub, Nat.reduceEqDiff, Nat.reduceLT, Nat.reduceLeDiff, Int.reduceEq, Int.reduceLT, Int.reduceLE, reduceIte, aresults, aresult, hp0, h1, h11, hsT, hlt5, hh, Option.isSome_some] at hx; (try (rw [guardL_if] at hx; split at hx <;> rename_i hc)))); all_goals (subst hx; first | (refine ⟨_, rfl, fun ht => ?_, fun ht => ?_⟩ <;> (try simp only [bbs] at ht)) | (refine ⟨_, rfl, ?_⟩; (try simp only [tupOf])))) | refine wSkip ?_ | (refine wExit ?_; simp only [thenQ, blockQ, reduceIte, Nat.reduceEqDiff]) | refine wSeq ?_ | refine wBlock ?_)
      all_goals try (exfalso; (try simp only [bbs] at *); first | omega | exact absurd trivial (by assumption))
      show (_ = _) ∧ (_ = _) ∧ SlF _ _ _
      refine ⟨?_, ?_, p, hpg, ?_, ?_⟩
      · simp only [upd_eq, put, Nat.reduceEqDiff, if_false, if_true]; exact h3
      · simp only [upd_eq, put, Nat.reduceEqDiff, if_false, if_true]; exact h4
      · simp only [upd_eq, put, Nat.reduceEqDiff, if_false, if_true]; exact h11
      · rw [Hp.set_h, if_pos rfl]; rfl
    · have hsT : (st = 1) = False := eq_false hs1
      rw [if_neg hs1]
      repeat' (first | ((first | refine wSeqr ?_ | refine wIf ?_ | refine wReg ?_ | (refine wRet ?_; (try simp only [thenQ, blockQ]); refine ends_by ?_)); intro xx hx; have hc := trivial; (repeat' (simp only [hc, Nat.reduceBEq, go_sem, Nat.reduceAdd, Nat.reduceMul, Nat.reduceSub, Nat.reduceEqDiff, Nat.reduceLT, Nat.reduceLeDiff, Int.reduceEq, Int.reduceLT, Int.reduceLE, reduceIte, aresults, aresult, hp0, h1, h11, hsT, hlt5, hh, Option.isSome_some] at hx; (try (rw [guardL_if] at hx; split at hx <;> rename_i hc)))); all_goals (subst hx; first | (refine ⟨_, rfl, fun ht => ?_, fun ht => ?_⟩ <;> (try simp only [bbs] at ht)) | (refine ⟨_, rfl, ?_⟩; (try simp only [tupOf])))) | refine wSkip ?_ | (refine wExit ?_; simp only [thenQ, blockQ, reduceIte, Nat.reduceEqDiff]) | refine wSeq ?_ | refine wBlock ?_)
      all_goals try (exfalso; (try simp only [bbs] at *); first | omega | exact absurd trivial (by assumption))
      show (_ = _) ∧ (_ = _) ∧ SlF _ _ _
      refine ⟨?_, ?_, p, hpg, ?_, hh⟩
      · simp only [upd_eq, put, Nat.reduceEqDiff, if_false, if_true]; exact h3
      · simp only [upd_eq, put, Nat.reduceEqDiff, if_false, if_true]; exact h4
      · simp only [upd_eq, put, Nat.reduceEqDiff, if_false, if_true]; exact h11
  clear h1 h3 h4 hpg h11 hh
  rintro ⟨e, H⟩ ⟨h3, h4, hsl⟩
  simp only at h3 h4 hsl
  show Wp _ _ _ _ _ _
  have hra := hsl.racc
  obtain ⟨p, hpg, h11, hh⟩ := hsl
  rw [h11] at hra
  generalize (if st = 1 then (0 : Int) else 1) = ak at *
  have hpr := c_pairN (n := rs.length) (by omega)
  repeat' ((fail_if_success (first | refine wAt 6 ?_)); first | ((first | refine wSeqr ?_ | refine wIf ?_ | refine wReg ?_ | (refine wRet ?_; (try simp only [thenQ, blockQ]); refine ends_by ?_)); intro xx hx; have hc := trivial; (repeat' (simp only [hc, Nat.reduceBEq, go_sem, Nat.reduceAdd, Nat.reduceMul, Nat.reduceSub, Nat.reduceEqDiff, Nat.reduceLT, Nat.reduceLeDiff, Int.reduceEq, Int.reduceLT, Int.reduceLE, reduceIte, aresults, aresult, hp0] at hx; (try (rw [guardL_if] at hx; split at hx <;> rename_i hc)))); all_goals (subst hx; first | (refine ⟨_, rfl, fun ht => ?_, fun ht => ?_⟩ <;> (try simp only [bbs] at ht)) | (refine ⟨_, rfl, ?_⟩; (try simp only [tupOf])))) | refine wSkip ?_ | (refine wExit ?_; simp only [thenQ, blockQ, reduceIte, Nat.reduceEqDiff]) | refine wSeq ?_ | refine wBlock ?_)
  (first | refine wSeqr ?_ | refine wReg ?_); intro xx hx; have hc := trivial; (repeat' (simp only [hc, Nat.reduceBEq, go_sem, Nat.reduceAdd, Nat.reduceMul, Nat.reduceSub, Nat.reduceEqDiff, Nat.reduceLT, Nat.reduceLeDiff, Int.reduceEq, Int.reduceLT, Int.reduceLE, reduceIte, aresults, aresult, hp0, h4, h11, hpr, List.length_map] at hx; (try (rw [guardL_if] at hx; split at hx <;> rename_i hc)))); generalize hq : aappend Tryd.prog _ _ _ _ = q at hx
  obtain ⟨x1, K1, rfl, hac1, hg1, hk1, ho1⟩ := app_rows hq el22 zero5 by5 int22 (sz := 1) rfl (by omega) hra (alen_bytes _) (afirst_bytes _ _) (by simp) (by simp [wordL_len]) (by simp [wordL_len])
  clear hq
  have hc := trivial; (repeat' (simp only [hc, Nat.reduceBEq, go_sem, Nat.reduceAdd, Nat.reduceMul, Nat.reduceSub, Nat.reduceEqDiff, Nat.reduceLT, Nat.reduceLeDiff, Int.reduceEq, Int.reduceLT, Int.reduceLE, reduceIte, aresults, aresult, hp0] at hx; (try (rw [guardL_if] at hx; split at hx <;> rename_i hc)))); generalize hq : aappend Tryd.prog _ _ _ _ = q at hx
  obtain ⟨x2, K2, rfl, hac2, hg2, hk2, ho2⟩ := app_rows hq el22 zero5 by5 int22 (sz := 1) rfl (by omega) hac1 (show alen (.lst true [[.v (.int .u8 0)], [.v (.int .u8 0)], [.v (.int .u8 0)], [.v (.int .u8 0)]]) = some 4 from rfl) (show afirst K1 1 4 (.lst true [[.v (.int .u8 0)], [.v (.int .u8 0)], [.v (.int .u8 0)], [.v (.int .u8 0)]]) = some ([0, 0, 0, 0].map cell) from rfl) rfl (by simp [wordL_len]) (by simp [wordL_len])
  clear hq
  have hc := trivial; (repeat' (simp only [hc, Nat.reduceBEq, go_sem, Nat.reduceAdd, Nat.reduceMul, Nat.reduceSub, Nat.reduceEqDiff, Nat.reduceLT, Nat.reduceLeDiff, Int.reduceEq, Int.reduceLT, Int.reduceLE, reduceIte, aresults, aresult, hp0] at hx; (try (rw [guardL_if] at hx; split at hx <;> rename_i hc)))); all_goals (subst hx; refine ⟨_, rfl, ?_⟩)
  repeat' ((fail_if_success (first | refine wAt 7 ?_)); first | ((first | refine wSeqr ?_ | refine wIf ?_ | refine wReg ?_ | (refine wRet ?_; (try simp only [thenQ, blockQ]); refine ends_by ?_)); intro xx hx; have hc := trivial; (repeat' (simp only [hc, Nat.reduceBEq, go_sem, Nat.reduceAdd, Nat.reduceMul, Nat.reduceSub, Nat.reduceEqDiff, Nat.reduceLT, Nat.reduceLeDiff, Int.reduceEq, Int.reduceLT, Int.reduceLE, reduceIte, aresults, aresult, hp0] at hx; (try (rw [guardL_if] at hx; split at hx <;> rename_i hc)))); all_goals (subst hx; first | (refine ⟨_, rfl, fun ht => ?_, fun ht => ?_⟩ <;> (try simp only [bbs] at ht)) | (refine ⟨_, rfl, ?_⟩; (try simp only [tupOf])))) | refine wSkip ?_ | (refine wExit ?_; simp only [thenQ, blockQ, reduceIte, Nat.reduceEqDiff]) | refine wSeq ?_ | refine wBlock ?_)
  (first | refine wSeqr ?_ | refine wReg ?_); intro xx hx; have hc := trivial; (repeat' (simp only [hc, Nat.reduceBEq, go_sem, Nat.reduceAdd, Nat.reduceMul, Nat.reduceSub, Nat.reduceEqDiff, Nat.reduceLT, Nat.reduceLeDiff, Int.reduceEq, Int.reduceLT, Int.reduceLE, reduceIte, aresults, aresult, hp0, h3] at hx; (try (rw [guardL_if] at hx; split at hx <;> rename_i hc)))); generalize hq : aappend Tryd.prog _ _ _ _ = q at hx
  obtain ⟨x3, K3, rfl, hac3, hg3, hk3, ho3⟩ := app_rows hq el22 zero5 by5 int22 (sz := 1) rfl (by omega) hac2 (alen_bytes _) (afirst_bytes _ _) (by simp) (by simp [wordL_len]; omega) (by simp [wordL_len]; omega)
  clear hq
  have hc := trivial; (repeat' (simp only [hc, Nat.reduceBEq, go_sem, Nat.reduceAdd, Nat.reduceMul, Nat.reduceSub, Nat.reduceEqDiff, Nat.reduceLT, Nat.reduceLeDiff, Int.reduceEq, Int.reduceLT, Int.reduceLE, reduceIte, aresults, aresult, hp0] at hx; (try (rw [guardL_if] at hx; split at hx <;> rename_i hc)))); all_goals (subst hx; refine ⟨_, rfl, ?_⟩)
  have hB : RAcc K3 x3 1 (([a, b, fl, st, 0, ak] ++ (wordL (rs.length : Nat) 2 ++ ([0, 0, 0, 0] ++ w))).map cell) ([a, b, fl, st, 0, ak] ++ (wordL (rs.length : Nat) 2 ++ ([0, 0, 0, 0] ++ w))).length := by
    have e1 : ([a, b, fl, st, 0, ak] ++ (wordL (rs.length : Nat) 2 ++ ([0, 0, 0, 0] ++ w))).length = [a, b, fl, st, 0, ak].length + (wordL (rs.length : Nat) 2).length + 4 + w.length := by simp [List.length_append]; omega
    rw [e1]
    simpa [List.map_append, List.append_assoc] using hac3
  have hBl : ([a, b, fl, st, 0, ak] ++ (wordL (rs.length : Nat) 2 ++ ([0, 0, 0, 0] ++ w))).length ≤ 2000 := by simp [wordL_len]; omega
  rw [← hans]
  generalize [a, b, fl, st, 0, ak] ++ (wordL (rs.length : Nat) 2 ++ ([0, 0, 0, 0] ++ w)) = B at *
  repeat' (first | ((first | refine wSeqr ?_ | refine wIf ?_ | refine wReg ?_ | (refine wRet ?_; (try simp only [thenQ, blockQ]); refine ends_by ?_)); intro xx hx; have hc := trivial; (repeat' (simp only [hc, Nat.reduceBEq, go_sem, Nat.reduceAdd, Nat.reduceMul, Nat.reduceSub, Nat.reduceEqDiff, Nat.reduceLT, Nat.reduceLeDiff, Int.reduceEq, Int.reduceLT, Int.reduceLE, reduceIte, aresults, aresult, hp0] at hx; (try (rw [guardL_if] at hx; split at hx <;> rename_i hc)))); all_goals (subst hx; first | (refine ⟨_, rfl, fun ht => ?_, fun ht => ?_⟩ <;> (try simp only [bbs] at ht)) | (refine ⟨_, rfl, ?_⟩; (try simp only [tupOf])))) | refine wSkip ?_ | (refine wExit ?_; simp only [thenQ, blockQ, reduceIte, Nat.reduceEqDiff]) | refine wSeq ?_ | refine wBlock ?_)
  refine wLoop (fun k s => ∃ (j : Nat) (x : AV), j + k = rs.length ∧ s.1 4 = .lst false (rs.map encRecord) ∧ s.1 11 = x ∧ s.1 12 = .v (.int .i64 (j : Nat)) ∧ (RAcc s.2 x 1 ((B ++ recsB rs j).map cell) (B ++ recsB rs j).length)) (fun k s hI => ?_) (rs.length) _ ?_
  · obtain ⟨e, H⟩ := s
    obtain ⟨j, x, hj, h4, h11, h12, hr⟩ := hI
    simp only at h4 h11 h12 hr
    have hll := recsB_len rs j
    have hBl2 : (B ++ recsB rs j).length ≤ 5000 := by rw [List.length_append]; omega
    by_cases hlt : j < rs.length
    · have hltI : ((j : Nat) : Int) < (rs.length : Int) := by omega
      obtain ⟨r, hg, -, hm1⟩ := at_drop hlt
      have hg' := map_at (f := encRecord) hg
      have hen := c_sl10Record r (hro r hm1)
      unfold encRecord at hen
      have hrl1 : (recB r).length ≤ 22 := by rw [recB_len]; split <;> omega
      have w1 : IntKind.wrap .i64 (((j : Nat) : Int) + 1) = ((j + 1 : Nat) : Int) := wrap_succ (by omega)
      repeat' ((fail_if_success (first | refine wAt 11 ?_)); first | ((first | refine wSeqr ?_ | refine wIf ?_ | refine wReg ?_ | (refine wRet ?_; (try simp only [thenQ, blockQ]); refine ends_by ?_)); intro xx hx; have hc := trivial; (repeat' (simp only [hc, Nat.reduceBEq, go_sem, Nat.reduceAdd, Nat.reduceMul, Nat.reduceSub, Nat.reduceEqDiff, Nat.reduceLT, Nat.reduceLeDiff, Int.reduceEq, Int.reduceLT, Int.reduceLE, reduceIte, aresults, aresult, hp0, h4, h12, hltI, List.length_map] at hx; (try (rw [guardL_if] at hx; split at hx <;> rename_i hc)))); all_goals (subst hx; first | (refine ⟨_, rfl, fun ht => ?_, fun ht => ?_⟩ <;> (try simp only [bbs] at ht)) | (refine ⟨_, rfl, ?_⟩; (try simp only [tupOf])))) | refine wSkip ?_ | (refine wExit ?_; simp only [thenQ, blockQ, reduceIte, Nat.reduceEqDiff]) | refine wSeq ?_ | refine wBlock ?_)
      all_goals try (exfalso; (try simp only [bbs] at *); first | omega | exact absurd trivial (by assumption))
      (first | refine wSeqr ?_ | refine wReg ?_); intro xx hx; have hc := trivial; (repeat' (simp only [hc, Nat.reduceBEq, go_sem, Nat.reduceAdd, Nat.reduceMul, Nat.reduceSub, Nat.reduceEqDiff, Nat.reduceLT, Nat.reduceLeDiff, Int.reduceEq, Int.reduceLT, Int.reduceLE, reduceIte, aresults, aresult, hp0, h4, h11, h12, hg', show (encRecord r).length = 3 from rfl, hen] at hx; (try (rw [guardL_if] at hx; split at hx <;> rename_i hc)))); generalize hq : aappend Tryd.prog _ _ _ _ = q at hx
      obtain ⟨x', K4, rfl, hacc, hg4, hk4, ho4⟩ := app_rows hq el22 zero5 by5 int22 (sz := 1) rfl (by omega) hr (alen_bytes _) (afirst_bytes _ _) (by simp) (by omega) (by omega)
      clear hq
      have hc := trivial; (repeat' (simp only [hc, Nat.reduceBEq, go_sem, Nat.reduceAdd, Nat.reduceMul, Nat.reduceSub, Nat.reduceEqDiff, Nat.reduceLT, Nat.reduceLeDiff, Int.reduceEq, Int.reduceLT, Int.reduceLE, reduceIte, aresults, aresult, hp0] at hx; (try (rw [guardL_if] at hx; split at hx <;> rename_i hc)))); all_goals (subst hx; refine ⟨_, rfl, ?_⟩)
      repeat' (first | ((first | refine wSeqr ?_ | refine wIf ?_ | refine wReg ?_ | (refine wRet ?_; (try simp only [thenQ, blockQ]); refine ends_by ?_)); intro xx hx; have hc := trivial; (repeat' (simp only [hc, Nat.reduceBEq, go_sem, Nat.reduceAdd, Nat.reduceMul, Nat.reduceSub, Nat.reduceEqDiff, Nat.reduceLT, Nat.reduceLeDiff, Int.reduceEq, Int.reduceLT, Int.reduceLE, reduceIte, aresults, aresult, hp0, h12, w1] at hx; (try (rw [guardL_if] at hx; split at hx <;> rename_i hc)))); all_goals (subst hx; first | (refine ⟨_, rfl, fun ht => ?_, fun ht => ?_⟩ <;> (try simp only [bbs] at ht)) | (refine ⟨_, rfl, ?_⟩; (try simp only [tupOf])))) | refine wSkip ?_ | (refine wExit ?_; simp only [thenQ, blockQ, reduceIte, Nat.reduceEqDiff]) | refine wSeq ?_ | refine wBlock ?_)
      all_goals try (exfalso; (try simp only [bbs] at *); first | omega | exact absurd trivial (by assumption))
      refine ⟨_, Nat.sub_lt (by omega) Nat.one_pos, j + 1, x', by omega, by simp only [upd_eq, Nat.reduceEqDiff, if_false, if_true, h4, h11, h12], by simp only [upd_eq, Nat.reduceEqDiff, if_false, if_true, h4, h11, h12], by simp only [upd_eq, Nat.reduceEqDiff, if_false, if_true, h4, h11, h12], ?_⟩
      rw [recsB_succ hg, ← List.append_assoc, List.map_append, List.length_append]
      exact hacc
    · have hltI : ¬ ((j : Nat) : Int) < (rs.length : Int) := by omega
      have hj2 : j = rs.length := by omega
      subst hj2
      repeat' (first | ((first | refine wSeqr ?_ | refine wIf ?_ | refine wReg ?_ | (refine wRet ?_; (try simp only [thenQ, blockQ]); refine ends_by ?_)); intro xx hx; have hc := trivial; (repeat' (simp only [hc, Nat.reduceBEq, go_sem, Nat.reduceAdd, Nat.reduceMul, Nat.reduceSub, Nat.reduceEqDiff, Nat.reduceLT, Nat.reduceLeDiff, Int.reduceEq, Int.reduceLT, Int.reduceLE, reduceIte, aresults, aresult, hp0, h4, h11, h12, hltI, List.length_map] at hx; (try (rw [guardL_if] at hx; split at hx <;> rename_i hc)))); all_goals (subst hx; first | (refine ⟨_, rfl, fun ht => ?_, fun ht => ?_⟩ <;> (try simp only [bbs] at ht)) | (refine ⟨_, rfl, ?_⟩; (try simp only [tupOf])))) | refine wSkip ?_ | (refine wExit ?_; simp only [thenQ, blockQ, reduceIte, Nat.reduceEqDiff]) | refine wSeq ?_ | refine wBlock ?_)
      all_goals try (exfalso; (try simp only [bbs] at *); first | omega | exact absurd trivial (by assumption))
      exact gO_bytesR hr
  · refine ⟨0, x3, by omega, ?_, ?_, ?_, ?_⟩
    · simp only [upd_eq, put, Nat.reduceEqDiff, if_false, if_true]; exact h4
    · simp only [upd_eq, put, Nat.reduceEqDiff, if_false, if_true]
    · rfl
    · simpa [recsB] using hB
theorem p_sl10Answer (a b : Int) (w : List Int) (st : Int) (cut : Bool) (rs : List RecordM) (hql : w.length ≤ 1000) (hrl : rs.length ≤ 100) (hst : 0 ≤ st ∧ st ≤ 255) (hro : ∀ r ∈ rs, recOk r) : pure Tryd.prog cfg0 29 Tryd.f29 [bytesL [a, b], .v (.int .i64 st), .v (.bool cut), bytesL w, .lst false (rs.map encRecord)] = some (bytesL (ansB [a, b] st cut w rs), true) := (pq_sl10Answer a b w st cut rs hql hrl hst hro).1
theorem c_sl10Answer (a b : Int) (w : List Int) (st : Int) (cut : Bool) (rs : List RecordM) (hql : w.length ≤ 1000) (hrl : rs.length ≤ 100) (hst : 0 ≤ st ∧ st ≤ 255) (hro : ∀ r ∈ rs, recOk r) : ∀ H, call Tryd.prog cfg0 0 29 [bytesL [a, b], .v (.int .i64 st), .v (.bool cut), bytesL w, .lst false (rs.map encRecord)] H = some (bytesL (ansB [a, b] st cut w rs), H) :=
  call_fz Tryd.func29 rfl ok_sl10Answer rfl (by simp only [fz_cons, fz_nil, go_sem, fz_rs, and_self]) (pq_sl10Answer a b w st cut rs hql hrl hst hro).1
theorem o_sl10Answer (a b : Int) (w : List Int) (st : Int) (cut : Bool) (rs : List RecordM) (hql : w.length ≤ 1000) (hrl : rs.length ≤ 100) (hst : 0 ≤ st ∧ st ≤ 255) (hro : ∀ r ∈ rs, recOk r) : ∀ H, call Tryd.prog cfg0 1 29 [bytesL [a, b], .v (.int .i64 st), .v (.bool cut), bytesL w, .lst false (rs.map encRecord)] H = mat depthD (bytesL (ansB [a, b] st cut w rs)) H := fun H =>
  call_ofO Tryd.func29 rfl ok_sl10Answer rfl (mapM_self fun x hx => ((show ∀ x ∈ ([bytesL [a, b], .v (.int .i64 st), .v (.bool cut), bytesL w, .lst false (rs.map encRecord)] : List AV), Fz depthD x by simp only [fz_cons, fz_nil, go_sem, fz_rs, and_self]) x hx).1 H) (pq_sl10Answer a b w st cut rs hql hrl hst hro).2

end
end Go.Proofs.YtnejoidfbgklbaaDoor
namespace Go.Proofs.YtnejoidfbgklbaaDoor
open Go Go.RowKit Go.Proofs.YtnejoidfbgklbaaDoor.Eng
set_option linter.unusedSimpArgs false
set_option linter.unusedVariables false
set_option maxRecDepth 100000
set_option maxHeartbeats 2000000
noncomputable section
/-- The query of bytes that are neither too few nor too many. -/
def qF (l : List Int) : Option (Int × List ByteArray × Int) := if 12 ≤ l.length ∧ l.length ≤ 300 then askF l else none
theorem rq_some {l : List Int} {i t : Int} {ls : List ByteArray} (h : qF l = some (i, ls, t)) : rqR l = qrR 0 i ls t := by
  unfold qF at h; unfold rqR
  split at h
  · rename_i hc1; rw [if_pos hc1, h]
  · simp at h
theorem rq_none {l : List Int} (h : qF l = none) : ∃ c : Int, ¬ c = 0 ∧ rqR l = qrR c 0 [] 0 := by
  unfold qF at h; unfold rqR
  split at h
  · rename_i hc1; rw [if_pos hc1, h]; exact ⟨1, by omega, rfl⟩
  · rename_i hc1; rw [if_neg hc1]; exact ⟨2, by omega, rfl⟩
theorem qF_ok {l : List Int} (hb : Eng.Bytes l) {i t : Int} {ls : List ByteArray} (h : qF l = some (i, ls, t)) : labsOk ls ∧ (0 ≤ i ∧ i ≤ 65535) ∧ (0 ≤ t ∧ t ≤ 65535) ∧ 12 ≤ l.length ∧ l.length ≤ 300 := by
  unfold qF at h
  split at h
  · rename_i hc1
    unfold askF at h
    split at h
    · rename_i hz
      simp only [Option.some.injEq, Prod.mk.injEq] at h
      obtain ⟨rfl, rfl, rfl⟩ := h
      exact ⟨(nm_ok l 12 12 0 [] 0 ⟨by simp, by simp⟩ (by simp) hz.1).1, num2_b hb _, num2_b hb _, hc1⟩
    · simp at h
  · simp at h
def stF (ls : List ByteArray) (t : Int) : Int := if svOf ls < 0 then 3 else if typB t = true then 0 else 4
def soR (l : List Int) : AV := match qF l with
  | some (i, ls, t) => .tup [.v (.int .i64 (stF ls t)), bytesL (l.drop 12), .agg [.v (.int .i64 i), textsL ls, .v (.int .i64 t)]]
  | none => .tup [.v (.int .i64 1), bytesL [], .agg [.v (.int .i64 0), textsL [], .v (.int .i64 0)]]
theorem d_so (s i t : Int) (d : List Int) (ls : List ByteArray) (H : Hp) : deep H depthD (.tup [.v (.int .i64 s), bytesL d, .agg [.v (.int .i64 i), textsL ls, .v (.int .i64 t)]]) = some (.tup [.v (.int .i64 s), bytesL d, .agg [.v (.int .i64 i), textsL ls, .v (.int .i64 t)]]) := by
  have e0 : deep H 10 (textsL ls) = some (textsL ls) := (fz_rows (n := 9) (fun s x hx => by simp only [List.mem_singleton] at hx; subst hx; exact Fz.string _ _) ls : Fz 10 (textsL ls)).1 H
  have e : deep H 11 (.agg [.v (.int .i64 i), textsL ls, .v (.int .i64 t)]) = some (.agg [.v (.int .i64 i), textsL ls, .v (.int .i64 t)]) := by
    show (List.mapM (deep H 10) _).map AV.agg = _
    rw [mapM_c (show deep H 10 (.v (.int .i64 i)) = some (.v (.int .i64 i)) from rfl) (mapM_c e0 (mapM_c (show deep H 10 (.v (.int .i64 t)) = some (.v (.int .i64 t)) from rfl) mapM_n))]
    rfl
  show (List.mapM (deep H 11) _).map AV.tup = _
  rw [mapM_c (show deep H 11 (.v (.int .i64 s)) = some (.v (.int .i64 s)) from rfl) (mapM_c ((bytesL_fz 9 d).1 H) (mapM_c e mapM_n))]
  rfl
theorem labs_sizes {ls : List ByteArray} (h : labsOk ls) : ∀ z ∈ ls, z.size ≤ 1048576 := fun z hz => by
  have := lab_size (h.2 z hz); omega
theorem ok_istatusOf : fnOk Tryd.prog cfg0 37 Tryd.f37 = true := by kernel_rfl
theorem p_istatusOf (l : List Int) (hb : Eng.Bytes l) (hl : l.length ≤ 1048576) : ∃ cl, pure Tryd.prog cfg0 37 Tryd.f37 [bytesL l] = some (soR l, cl) := by
  have key : ∃ v cl, v = (soR l : AV) ∧ pure Tryd.prog cfg0 37 Tryd.f37 [bytesL l] = some (v, cl) := by
    refine pure_ex (rs := [.tmp 2, .tmp 3, .cell 4 52]) rfl rfl ?_
    have hp0 : ∀ b, cfg0.pol 37 b = 0 := fun b => rfl
    have hrq := c_iReadQuery l hb hl
    cases hqf : qF l with
    | none =>
      obtain ⟨c, hc0, hcr⟩ := rq_none hqf
      rw [hcr] at hrq
      unfold qrR at hrq
      rw [show soR l = .tup [.v (.int .i64 1), bytesL [], .agg [.v (.int .i64 0), textsL [], .v (.int .i64 0)]] by unfold soR; rw [hqf]]
      have tx := tx_ok []
      repeat' (first | ((first | refine wSeqr ?_ | refine wIf ?_ | refine wReg ?_ | (refine wRet ?_; (try simp only [thenQ, blockQ]); refine ends_by ?_)); intro xx hx; have hc := trivial; (repeat' (simp only [hc, Nat.reduceBEq, go_sem, Nat.reduceAdd, Nat.reduceMul, Nat.reduceSub, Nat.reduceEqDiff, Nat.reduceLT, Nat.reduceLeDiff, Int.reduceEq, Int.reduceLT, Int.reduceLE, reduceIte, aresults, aresult, hp0, hrq, hc0, tx.1, tx.2] at hx; (try (rw [guardL_if] at hx; split at hx <;> rename_i hc)))); all_goals (subst hx; first | (refine ⟨_, rfl, fun ht => ?_, fun ht => ?_⟩ <;> (try simp only [bbs] at ht)) | (refine ⟨_, rfl, ?_⟩; (try simp only [tupOf])))) | refine wSkip ?_ | (refine wExit ?_; simp only [thenQ, blockQ, reduceIte, Nat.reduceEqDiff]) | refine wSeq ?_ | refine wBlock ?_)
      all_goals try (exfalso; (try simp only [bbs] at *); first | omega | exact absurd trivial (by assumption))
      all_goals exact dirty rfl
    | some z =>
      obtain ⟨i, ls, t⟩ := z
      have hcr := rq_some hqf
      obtain ⟨hk, hi, htt, h12, h300⟩ := qF_ok hb hqf
      rw [hcr] at hrq
      unfold qrR at hrq
      have hsl : (12 ≤ l.length) = True := eq_true h12
      rw [show soR l = .tup [.v (.int .i64 (stF ls t)), bytesL (l.drop 12), .agg [.v (.int .i64 i), textsL ls, .v (.int .i64 t)]] by unfold soR; rw [hqf]]
      have tx := tx_ok ls
      have hsv := c_iServiceOf ls (labs_sizes hk)
      have hty := c_iisType t
      by_cases hs : svOf ls < 0
      · have hcs : svC ls = 4 := by unfold svC; rw [if_pos hs]
        rw [hcs] at hsv
        rw [show stF ls t = 3 from if_pos hs]
        repeat' (first | ((first | refine wSeqr ?_ | refine wIf ?_ | refine wReg ?_ | (refine wRet ?_; (try simp only [thenQ, blockQ]); refine ends_by ?_)); intro xx hx; have hc := trivial; (repeat' (simp only [hc, Nat.reduceBEq, go_sem, Nat.reduceAdd, Nat.reduceMul, Nat.reduceSub, Nat.reduceEqDiff, Nat.reduceLT, Nat.reduceLeDiff, Int.reduceEq, Int.reduceLT, Int.reduceLE, reduceIte, aresults, aresult, hp0, hrq, hsv, hsl, tx.1, tx.2] at hx; (try (rw [guardL_if] at hx; split at hx <;> rename_i hc)))); all_goals (subst hx; first | (refine ⟨_, rfl, fun ht => ?_, fun ht => ?_⟩ <;> (try simp only [bbs] at ht)) | (refine ⟨_, rfl, ?_⟩; (try simp only [tupOf])))) | refine wSkip ?_ | (refine wExit ?_; simp only [thenQ, blockQ, reduceIte, Nat.reduceEqDiff]) | refine wSeq ?_ | refine wBlock ?_)
        all_goals try (exfalso; (try simp only [bbs] at *); first | omega | exact absurd trivial (by assumption))
        all_goals exact dirty (d_so _ _ _ _ _ _)
      · have hcs : svC ls = 0 := by unfold svC; rw [if_neg hs]
        rw [hcs] at hsv
        cases htb : typB t with
        | true =>
          rw [show stF ls t = 0 by unfold stF; rw [if_neg hs, if_pos htb]]
          rw [htb] at hty
          repeat' (first | ((first | refine wSeqr ?_ | refine wIf ?_ | refine wReg ?_ | (refine wRet ?_; (try simp only [thenQ, blockQ]); refine ends_by ?_)); intro xx hx; have hc := trivial; (repeat' (simp only [hc, Nat.reduceBEq, go_sem, Nat.reduceAdd, Nat.reduceMul, Nat.reduceSub, Nat.reduceEqDiff, Nat.reduceLT, Nat.reduceLeDiff, Int.reduceEq, Int.reduceLT, Int.reduceLE, reduceIte, aresults, aresult, hp0, hrq, hsv, hty, hsl, tx.1, tx.2] at hx; (try (rw [guardL_if] at hx; split at hx <;> rename_i hc)))); all_goals (subst hx; first | (refine ⟨_, rfl, fun ht => ?_, fun ht => ?_⟩ <;> (try simp only [bbs] at ht)) | (refine ⟨_, rfl, ?_⟩; (try simp only [tupOf])))) | refine wSkip ?_ | (refine wExit ?_; simp only [thenQ, blockQ, reduceIte, Nat.reduceEqDiff]) | refine wSeq ?_ | refine wBlock ?_)
          all_goals try (exfalso; (try simp only [bbs] at *); first | omega | exact absurd trivial (by assumption))
          all_goals exact dirty (d_so _ _ _ _ _ _)
        | false =>
          rw [show stF ls t = 4 by unfold stF; rw [if_neg hs, if_neg (by simp [htb])]]
          rw [htb] at hty
          repeat' (first | ((first | refine wSeqr ?_ | refine wIf ?_ | refine wReg ?_ | (refine wRet ?_; (try simp only [thenQ, blockQ]); refine ends_by ?_)); intro xx hx; have hc := trivial; (repeat' (simp only [hc, Nat.reduceBEq, go_sem, Nat.reduceAdd, Nat.reduceMul, Nat.reduceSub, Nat.reduceEqDiff, Nat.reduceLT, Nat.reduceLeDiff, Int.reduceEq, Int.reduceLT, Int.reduceLE, reduceIte, aresults, aresult, hp0, hrq, hsv, hty, hsl, tx.1, tx.2] at hx; (try (rw [guardL_if] at hx; split at hx <;> rename_i hc)))); all_goals (subst hx; first | (refine ⟨_, rfl, fun ht => ?_, fun ht => ?_⟩ <;> (try simp only [bbs] at ht)) | (refine ⟨_, rfl, ?_⟩; (try simp only [tupOf])))) | refine wSkip ?_ | (refine wExit ?_; simp only [thenQ, blockQ, reduceIte, Nat.reduceEqDiff]) | refine wSeq ?_ | refine wBlock ?_)
          all_goals try (exfalso; (try simp only [bbs] at *); first | omega | exact absurd trivial (by assumption))
          all_goals exact dirty (d_so _ _ _ _ _ _)
  obtain ⟨v, cl, rfl, hp⟩ := key
  exact ⟨cl, hp⟩
theorem c_istatusOf (l : List Int) (hb : Eng.Bytes l) (hl : l.length ≤ 1048576) : ∀ H, call Tryd.prog cfg0 0 37 [bytesL l] H = some (soR l, H) := fun H => by
  obtain ⟨cl, hp⟩ := p_istatusOf l hb hl
  exact call_fz Tryd.func37 rfl ok_istatusOf rfl (by simp only [fz_cons, fz_nil, go_sem, and_self]) hp H

end
end Go.Proofs.YtnejoidfbgklbaaDoor
namespace Go.Proofs.YtnejoidfbgklbaaDoor
open Go Go.RowKit Go.Proofs.YtnejoidfbgklbaaDoor.Eng
set_option linter.unusedSimpArgs false
set_option linter.unusedVariables false
set_option maxRecDepth 100000
set_option maxHeartbeats 2000000
noncomputable section
theorem sv_le (ls : List ByteArray) : svOf ls ≤ 99 := by
  unfold svOf
  split
  · unfold numOf
    split
    · rename_i h
      have hd : (svNum ls).all isDg = true := by have := h.1; simp only [canon, Bool.and_eq_true] at this; exact this.1.2
      have hv := vdA_lt (svNum ls) 0 hd
      have : 10 ^ (svNum ls).length ≤ 10 ^ 2 := Nat.pow_le_pow_right (by decide) h.2
      omega
    · omega
  · omega
def stQ (l : List Int) : Int := match qF l with
  | some (_, ls, t) => stF ls t
  | none => 1
def quQ (l : List Int) : List Int := match qF l with
  | some _ => l.drop 12
  | none => []
def rsQ (v : List ClaimM) (l : List Int) : List RecordM := match qF l with
  | some (_, ls, t) => if stF ls t = 0 then recsL v (svOf ls) t else []
  | none => []
theorem d_st (s : Int) (rs : List RecordM) (H : Hp) : deep H depthD (.tup [.v (.int .i64 s), .lst false (rs.map encRecord)]) = some (.tup [.v (.int .i64 s), .lst false (rs.map encRecord)]) := by
  have e : deep H 11 (.lst false (rs.map encRecord)) = some (.lst false (rs.map encRecord)) := (fz_rows (n := 10) (fun k => fzE_Record 9 k) rs).1 H
  show (List.mapM (deep H 11) _).map AV.tup = _
  rw [mapM_c (show deep H 11 (.v (.int .i64 s)) = some (.v (.int .i64 s)) from rfl) (mapM_c e mapM_n)]
  rfl
theorem ok_sl10Status : fnOk Tryd.prog cfg0 47 Tryd.f47 = true := by kernel_rfl
theorem p_sl10Status (vw : List ClaimM) (hv : vw.length ≤ 1048576) (hm : CMeta vw) (l : List Int) (hb : Eng.Bytes l) (hl : l.length ≤ 1048576) : ∃ cl, pure Tryd.prog cfg0 47 Tryd.f47 [.lst false (vw.map encClaim), bytesL l] = some (.tup [.v (.int .i64 (stQ l)), .lst false ((rsQ vw l).map encRecord)], cl) := by
  have key : ∃ v cl, v = (.tup [.v (.int .i64 (stQ l)), .lst false ((rsQ vw l).map encRecord)] : AV) ∧ pure Tryd.prog cfg0 47 Tryd.f47 [.lst false (vw.map encClaim), bytesL l] = some (v, cl) := by
    refine pure_ex (rs := [.tmp 4, .tmp 5]) rfl rfl ?_
    have hp0 : ∀ b, cfg0.pol 47 b = 0 := fun b => rfl
    have hrq := c_sReadQuery l hb hl
    cases hqf : qF l with
    | none =>
      obtain ⟨c, hc0, hcr⟩ := rq_none hqf
      rw [hcr] at hrq
      unfold qrR at hrq
      rw [show stQ l = 1 by unfold stQ; rw [hqf], show rsQ vw l = [] by unfold rsQ; rw [hqf]]
      have tx := tx_ok []
      repeat' (first | ((first | refine wSeqr ?_ | refine wIf ?_ | refine wReg ?_ | (refine wRet ?_; (try simp only [thenQ, blockQ]); refine ends_by ?_)); intro xx hx; have hc := trivial; (repeat' (simp only [hc, Nat.reduceBEq, go_sem, Nat.reduceAdd, Nat.reduceMul, Nat.reduceSub, Nat.reduceEqDiff, Nat.reduceLT, Nat.reduceLeDiff, Int.reduceEq, Int.reduceLT, Int.reduceLE, reduceIte, aresults, aresult, hp0, hrq, hc0, tx.1, tx.2] at hx; (try (rw [guardL_if] at hx; split at hx <;> rename_i hc)))); all_goals (subst hx; first | (refine ⟨_, rfl, fun ht => ?_, fun ht => ?_⟩ <;> (try simp only [bbs] at ht)) | (refine ⟨_, rfl, ?_⟩; (try simp only [tupOf])))) | refine wSkip ?_ | (refine wExit ?_; simp only [thenQ, blockQ, reduceIte, Nat.reduceEqDiff]) | refine wSeq ?_ | refine wBlock ?_)
      all_goals try (exfalso; (try simp only [bbs] at *); first | omega | exact absurd trivial (by assumption))
      all_goals exact dirty rfl
    | some z =>
      obtain ⟨i, ls, t⟩ := z
      have hcr := rq_some hqf
      obtain ⟨hk, hi, htt, h12, h300⟩ := qF_ok hb hqf
      rw [hcr] at hrq
      unfold qrR at hrq
      rw [show stQ l = stF ls t by unfold stQ; rw [hqf], show rsQ vw l = if stF ls t = 0 then recsL vw (svOf ls) t else [] by unfold rsQ; rw [hqf]]
      have tx := tx_ok ls
      have hsv := c_sl10Service ls
      have hrr := c_sl10Records vw hv hm (svOf ls) t
      by_cases hs : svOf ls < 0
      · rw [show stF ls t = 3 from if_pos hs]
        repeat' (first | ((first | refine wSeqr ?_ | refine wIf ?_ | refine wReg ?_ | (refine wRet ?_; (try simp only [thenQ, blockQ]); refine ends_by ?_)); intro xx hx; have hc := trivial; (repeat' (simp only [hc, Nat.reduceBEq, go_sem, Nat.reduceAdd, Nat.reduceMul, Nat.reduceSub, Nat.reduceEqDiff, Nat.reduceLT, Nat.reduceLeDiff, Int.reduceEq, Int.reduceLT, Int.reduceLE, reduceIte, aresults, aresult, hp0, hrq, hsv, hs, tx.1, tx.2] at hx; (try (rw [guardL_if] at hx; split at hx <;> rename_i hc)))); all_goals (subst hx; first | (refine ⟨_, rfl, fun ht => ?_, fun ht => ?_⟩ <;> (try simp only [bbs] at ht)) | (refine ⟨_, rfl, ?_⟩; (try simp only [tupOf])))) | refine wSkip ?_ | (refine wExit ?_; simp only [thenQ, blockQ, reduceIte, Nat.reduceEqDiff]) | refine wSeq ?_ | refine wBlock ?_)
        all_goals try (exfalso; (try simp only [bbs] at *); first | omega | exact absurd trivial (by assumption))
        all_goals exact dirty rfl
      · by_cases htb : t = 1 ∨ t = 33
        · rw [show stF ls t = 0 by unfold stF; rw [if_neg hs, if_pos (by unfold typB; rcases htb with h | h <;> simp [h])]]
          rw [if_pos rfl]
          rcases htb with ht1 | ht1
          · have hT : (t = 1) = True := eq_true ht1
            have hF : (t = 33) = False := eq_false (by omega)
            repeat' (first | ((first | refine wSeqr ?_ | refine wIf ?_ | refine wReg ?_ | (refine wRet ?_; (try simp only [thenQ, blockQ]); refine ends_by ?_)); intro xx hx; have hc := trivial; (repeat' (simp only [hc, Nat.reduceBEq, go_sem, Nat.reduceAdd, Nat.reduceMul, Nat.reduceSub, Nat.reduceEqDiff, Nat.reduceLT, Nat.reduceLeDiff, Int.reduceEq, Int.reduceLT, Int.reduceLE, reduceIte, aresults, aresult, hp0, hrq, hsv, hs, hrr, hT, hF, not_true_eq_false, not_false_eq_true, decide_false, decide_true, tx.1, tx.2] at hx; (try (rw [guardL_if] at hx; split at hx <;> rename_i hc)))); all_goals (subst hx; first | (refine ⟨_, rfl, fun ht => ?_, fun ht => ?_⟩ <;> (try simp only [bbs] at ht)) | (refine ⟨_, rfl, ?_⟩; (try simp only [tupOf])))) | refine wSkip ?_ | (refine wExit ?_; simp only [thenQ, blockQ, reduceIte, Nat.reduceEqDiff]) | refine wSeq ?_ | refine wBlock ?_)
            all_goals try (exfalso; (try simp only [bbs] at *); first | omega | exact absurd trivial (by assumption))
            all_goals exact dirty (d_st _ _ _)
          · have hT : (t = 33) = True := eq_true ht1
            have hF : (t = 1) = False := eq_false (by omega)
            repeat' (first | ((first | refine wSeqr ?_ | refine wIf ?_ | refine wReg ?_ | (refine wRet ?_; (try simp only [thenQ, blockQ]); refine ends_by ?_)); intro xx hx; have hc := trivial; (repeat' (simp only [hc, Nat.reduceBEq, go_sem, Nat.reduceAdd, Nat.reduceMul, Nat.reduceSub, Nat.reduceEqDiff, Nat.reduceLT, Nat.reduceLeDiff, Int.reduceEq, Int.reduceLT, Int.reduceLE, reduceIte, aresults, aresult, hp0, hrq, hsv, hs, hrr, hT, hF, not_true_eq_false, not_false_eq_true, decide_false, decide_true, tx.1, tx.2] at hx; (try (rw [guardL_if] at hx; split at hx <;> rename_i hc)))); all_goals (subst hx; first | (refine ⟨_, rfl, fun ht => ?_, fun ht => ?_⟩ <;> (try simp only [bbs] at ht)) | (refine ⟨_, rfl, ?_⟩; (try simp only [tupOf])))) | refine wSkip ?_ | (refine wExit ?_; simp only [thenQ, blockQ, reduceIte, Nat.reduceEqDiff]) | refine wSeq ?_ | refine wBlock ?_)
            all_goals try (exfalso; (try simp only [bbs] at *); first | omega | exact absurd trivial (by assumption))
            all_goals exact dirty (d_st _ _ _)
        · have hT : (t = 33) = False := eq_false (by omega)
          have hF : (t = 1) = False := eq_false (by omega)
          rw [show stF ls t = 4 by unfold stF; rw [if_neg hs, if_neg (by unfold typB; simp [hT, hF])]]
          repeat' (first | ((first | refine wSeqr ?_ | refine wIf ?_ | refine wReg ?_ | (refine wRet ?_; (try simp only [thenQ, blockQ]); refine ends_by ?_)); intro xx hx; have hc := trivial; (repeat' (simp only [hc, Nat.reduceBEq, go_sem, Nat.reduceAdd, Nat.reduceMul, Nat.reduceSub, Nat.reduceEqDiff, Nat.reduceLT, Nat.reduceLeDiff, Int.reduceEq, Int.reduceLT, Int.reduceLE, reduceIte, aresults, aresult, hp0, hrq, hsv, hs, hT, hF, not_true_eq_false, not_false_eq_true, decide_false, decide_true, tx.1, tx.2] at hx; (try (rw [guardL_if] at hx; split at hx <;> rename_i hc)))); all_goals (subst hx; first | (refine ⟨_, rfl, fun ht => ?_, fun ht => ?_⟩ <;> (try simp only [bbs] at ht)) | (refine ⟨_, rfl, ?_⟩; (try simp only [tupOf])))) | refine wSkip ?_ | (refine wExit ?_; simp only [thenQ, blockQ, reduceIte, Nat.reduceEqDiff]) | refine wSeq ?_ | refine wBlock ?_)
          all_goals try (exfalso; (try simp only [bbs] at *); first | omega | exact absurd trivial (by assumption))
          all_goals exact dirty rfl
  obtain ⟨v, cl, rfl, hp⟩ := key
  exact ⟨cl, hp⟩
theorem c_sl10Status (vw : List ClaimM) (hv : vw.length ≤ 1048576) (hm : CMeta vw) (l : List Int) (hb : Eng.Bytes l) (hl : l.length ≤ 1048576) : ∀ H, call Tryd.prog cfg0 0 47 [.lst false (vw.map encClaim), bytesL l] H = some (.tup [.v (.int .i64 (stQ l)), .lst false ((rsQ vw l).map encRecord)], H) := fun H => by
  obtain ⟨cl, hp⟩ := p_sl10Status vw hv hm l hb hl
  exact call_fz Tryd.func47 rfl ok_sl10Status rfl (by simp only [fz_cons, fz_nil, go_sem, and_self]) hp H

end
end Go.Proofs.YtnejoidfbgklbaaDoor
