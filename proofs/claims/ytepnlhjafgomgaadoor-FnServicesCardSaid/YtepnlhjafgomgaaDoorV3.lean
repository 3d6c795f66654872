/- Contracts: RecordsFor and SameRecords, both sides. -/
import Derived.Test.YtepnlhjafgomgaaDoorV2
namespace Go.Proofs.YtepnlhjafgomgaaDoor
open Go Go.RowKit Go.Proofs.YtepnlhjafgomgaaDoor.Eng
set_option linter.unusedSimpArgs false
set_option linter.unusedVariables false
set_option maxRecDepth 100000
set_option maxHeartbeats 1000000
noncomputable section
def typB (k : Int) : Bool := decide (k = 1) || decide (k = 33)
theorem ok_iisType : fnOk Tryd.prog cfg0 21 Tryd.f21 = true := by kernel_rfl
theorem p_iisType (k : Int) : pure Tryd.prog cfg0 21 Tryd.f21 [.v (.int .i64 k)] = some (.v (.bool (typB k)), true) := by
  refine pure_wp (rs := [.tmp 2]) rfl rfl ?_
  have hp0 : ∀ b, cfg0.pol 21 b = 0 := fun b => rfl
  repeat' (first | ((first | refine wSeqr (fun xx hx => ?_) | refine wIf (fun xx hx => ?_) | refine wReg (fun xx hx => ?_) | (refine wRet ?_; (try simp only [thenQ, blockQ]); refine ends_by (fun xx hx => ?_))); have hc := trivial; (repeat' (simp only [hc, Nat.reduceBEq, go_sem, Nat.reduceAdd, Nat.reduceMul, Nat.reduceSub, Nat.reduceEqDiff, Nat.reduceLT, Nat.reduceLeDiff, Int.reduceEq, Int.reduceLT, Int.reduceLE, reduceIte, aresults, aresult, hp0] at hx; (try (rw [guardL_if] at hx; split at hx <;> rename_i hc)))); all_goals (subst hx; first | (refine ⟨_, rfl, fun ht => ?_, fun ht => ?_⟩ <;> (try simp only [bbs, beq_iff_eq, bne_iff_ne, ne_eq] at ht)) | (refine ⟨_, rfl, ?_⟩; (try simp only [tupOf])))) | refine wSkip ?_ | (refine wExit ?_; simp only [thenQ, blockQ, reduceIte, Nat.reduceEqDiff]) | refine wSeq ?_ | refine wBlock ?_)
  all_goals (refine gives_boolv ?_; simp_all [typB])
theorem c_iisType (k : Int) : ∀ H, call Tryd.prog cfg0 0 21 [.v (.int .i64 k)] H = some (.v (.bool (typB k)), H) :=
  call_fz Tryd.func21 rfl ok_iisType rfl (by simp only [fz_cons, fz_nil, go_sem, and_self]) (p_iisType k)

def rfC (l : List ClaimM) (sv kind : Int) : Int := if viewF l = 0 then if inB sv 0 99 = true ∧ typB kind = true then 0 else 3 else viewF l
def rfL (l : List ClaimM) (sv kind : Int) : List RecordM := if rfC l sv kind = 0 then recsL l sv kind else []
theorem viewF_meta {l : List ClaimM} (h : viewF l = 0) : CMeta l := fun c hc => by
  have := (viewF_ok h).2 c hc
  unfold claimFault claimOk at this
  split at this
  · rename_i h; simp only [Bool.and_eq_true, inB_t] at h; omega
  · omega
def rfR (l : List ClaimM) (sv kind : Int) : AV := .agg [.v (.int .i64 (rfC l sv kind)), .lst false ((rfL l sv kind).map encRecord)]
theorem rfR_c {l : List ClaimM} {sv kind c : Int} (h : rfC l sv kind = c) (hc : ¬ c = 0) : rfR l sv kind = .agg [.v (.int .i64 c), .lst false []] := by unfold rfR rfL; rw [h, if_neg hc]; rfl
theorem rfR_0 {l : List ClaimM} {sv kind : Int} (h : rfC l sv kind = 0) : rfR l sv kind = .agg [.v (.int .i64 0), .lst false ((recsL l sv kind).map encRecord)] := by unfold rfR rfL; rw [h, if_pos rfl]
theorem fz_rr (c : Int) (l : List RecordM) : Fz depthD (.agg [.v (.int .i64 c), .lst false (l.map encRecord)]) := Fz.agg (n := 11) fun x hx => by
  simp only [List.mem_cons, List.not_mem_nil, or_false] at hx
  rcases hx with rfl | rfl
  · exact Fz.int _ _ _
  · exact fz_rows (n := 10) (fun k => fzE_Record 9 k) l
theorem d_rr {c : Int} {H : Hp} {x : AV} {l : List RecordM} {n : Nat} (h : RAcc H x 3 ((l.map encRecord).flatten) n) (hn : n = l.length) : deep H depthD (.agg [.v (.int .i64 c), x]) = some (.agg [.v (.int .i64 c), .lst false (l.map encRecord)]) := by
  show ([AV.v (.int .i64 c), x].mapM (deep H 11)).map AV.agg = _
  have h2 : deep H 11 x = some (.lst false (l.map encRecord)) := deep_racc (d := 10) h hn (by omega) (fun _ => rfl) (fun k x hx => fzE_Record 9 k x hx)
  simp only [List.mapM_cons, List.mapM_nil, h2, Option.pure_def, Option.bind_eq_bind, Option.bind_some, Option.map_some]
  rfl
theorem ok_sRecordsFor : fnOk Tryd.prog cfg0 9 Tryd.f9 = true := by kernel_rfl
theorem p_sRecordsFor (l : List ClaimM) (hl : l.length ≤ 1048576) (sv kind : Int) : ∃ cl, pure Tryd.prog cfg0 9 Tryd.f9 [.lst false (l.map encClaim), .v (.int .i64 sv), .v (.int .i64 kind)] = some (rfR l sv kind, cl) := by
  have key : ∃ v cl, v = (rfR l sv kind : AV) ∧ pure Tryd.prog cfg0 9 Tryd.f9 [.lst false (l.map encClaim), .v (.int .i64 sv), .v (.int .i64 kind)] = some (v, cl) := by
    refine pure_ex (rs := [.cell 6 29]) rfl rfl ?_
    have hp0 : ∀ b, cfg0.pol 9 b = 0 := fun b => rfl
    have hv := c_sViewFault l hl
    by_cases hf : viewF l = 0
    · by_cases hs : inB sv 0 99 = true
      · by_cases hk : kind = 1 ∨ kind = 33
        · have hcR := c_sl10Records l hl (viewF_meta hf) sv kind
          rw [rfR_0 (by unfold rfC; rw [if_pos hf, if_pos ⟨hs, by unfold typB; rcases hk with h | h <;> simp [h]⟩])]
          rcases hk with hk | hk
          · have k33 : ¬ kind = 33 := by omega
            have kT : (kind = 1) = True := eq_true hk
            repeat' (first | ((first | refine wSeqr (fun xx hx => ?_) | refine wIf (fun xx hx => ?_) | refine wReg (fun xx hx => ?_) | (refine wRet ?_; (try simp only [thenQ, blockQ]); refine ends_by (fun xx hx => ?_))); have hc := trivial; (repeat' (simp only [hc, Nat.reduceBEq, go_sem, Nat.reduceAdd, Nat.reduceMul, Nat.reduceSub, Nat.reduceEqDiff, Nat.reduceLT, Nat.reduceLeDiff, Int.reduceEq, Int.reduceLT, Int.reduceLE, reduceIte, aresults, aresult, hp0, hv, hf, hcR, c_sl1In, hs, kT, k33, Bool.not_true, not_true_eq_false, decide_false] at hx; (try (rw [guardL_if] at hx; split at hx <;> rename_i hc)))); all_goals (subst hx; first | (refine ⟨_, rfl, fun ht => ?_, fun ht => ?_⟩ <;> (try simp only [bbs, beq_iff_eq, bne_iff_ne, ne_eq] at ht)) | (refine ⟨_, rfl, ?_⟩; (try simp only [tupOf])))) | refine wSkip ?_ | (refine wExit ?_; simp only [thenQ, blockQ, reduceIte, Nat.reduceEqDiff]) | refine wSeq ?_ | refine wBlock ?_)
            all_goals try (exfalso; (try simp only [bbs, beq_iff_eq, bne_iff_ne, ne_eq] at *); first | omega | exact absurd trivial (by assumption))
            all_goals exact dirty (fz_deep (fz_rr _ _) _)
          · have k1 : ¬ kind = 1 := by omega
            have kT : (kind = 33) = True := eq_true hk
            repeat' (first | ((first | refine wSeqr (fun xx hx => ?_) | refine wIf (fun xx hx => ?_) | refine wReg (fun xx hx => ?_) | (refine wRet ?_; (try simp only [thenQ, blockQ]); refine ends_by (fun xx hx => ?_))); have hc := trivial; (repeat' (simp only [hc, Nat.reduceBEq, go_sem, Nat.reduceAdd, Nat.reduceMul, Nat.reduceSub, Nat.reduceEqDiff, Nat.reduceLT, Nat.reduceLeDiff, Int.reduceEq, Int.reduceLT, Int.reduceLE, reduceIte, aresults, aresult, hp0, hv, hf, hcR, c_sl1In, hs, kT, k1, Bool.not_true, not_true_eq_false, decide_false] at hx; (try (rw [guardL_if] at hx; split at hx <;> rename_i hc)))); all_goals (subst hx; first | (refine ⟨_, rfl, fun ht => ?_, fun ht => ?_⟩ <;> (try simp only [bbs, beq_iff_eq, bne_iff_ne, ne_eq] at ht)) | (refine ⟨_, rfl, ?_⟩; (try simp only [tupOf])))) | refine wSkip ?_ | (refine wExit ?_; simp only [thenQ, blockQ, reduceIte, Nat.reduceEqDiff]) | refine wSeq ?_ | refine wBlock ?_)
            all_goals try (exfalso; (try simp only [bbs, beq_iff_eq, bne_iff_ne, ne_eq] at *); first | omega | exact absurd trivial (by assumption))
            all_goals exact dirty (fz_deep (fz_rr _ _) _)
        · have k1 : ¬ kind = 1 := by omega
          have k33 : ¬ kind = 33 := by omega
          rw [rfR_c (c := 3) (by unfold rfC; rw [if_pos hf, if_neg (by unfold typB; simp [k1, k33])]) (by omega)]
          repeat' (first | ((first | refine wSeqr (fun xx hx => ?_) | refine wIf (fun xx hx => ?_) | refine wReg (fun xx hx => ?_) | (refine wRet ?_; (try simp only [thenQ, blockQ]); refine ends_by (fun xx hx => ?_))); have hc := trivial; (repeat' (simp only [hc, Nat.reduceBEq, go_sem, Nat.reduceAdd, Nat.reduceMul, Nat.reduceSub, Nat.reduceEqDiff, Nat.reduceLT, Nat.reduceLeDiff, Int.reduceEq, Int.reduceLT, Int.reduceLE, reduceIte, aresults, aresult, hp0, hv, hf, c_sl1In, hs, k1, k33, Bool.not_true] at hx; (try (rw [guardL_if] at hx; split at hx <;> rename_i hc)))); all_goals (subst hx; first | (refine ⟨_, rfl, fun ht => ?_, fun ht => ?_⟩ <;> (try simp only [bbs, beq_iff_eq, bne_iff_ne, ne_eq] at ht)) | (refine ⟨_, rfl, ?_⟩; (try simp only [tupOf])))) | refine wSkip ?_ | (refine wExit ?_; simp only [thenQ, blockQ, reduceIte, Nat.reduceEqDiff]) | refine wSeq ?_ | refine wBlock ?_)
          all_goals try (exfalso; (try simp only [bbs, beq_iff_eq, bne_iff_ne, ne_eq] at *); first | omega | exact absurd trivial (by assumption))
          all_goals exact dirty rfl
      · have hs' : inB sv 0 99 = false := by simpa using hs
        rw [rfR_c (c := 3) (by unfold rfC; rw [if_pos hf, if_neg (by simp [hs'])]) (by omega)]
        repeat' (first | ((first | refine wSeqr (fun xx hx => ?_) | refine wIf (fun xx hx => ?_) | refine wReg (fun xx hx => ?_) | (refine wRet ?_; (try simp only [thenQ, blockQ]); refine ends_by (fun xx hx => ?_))); have hc := trivial; (repeat' (simp only [hc, Nat.reduceBEq, go_sem, Nat.reduceAdd, Nat.reduceMul, Nat.reduceSub, Nat.reduceEqDiff, Nat.reduceLT, Nat.reduceLeDiff, Int.reduceEq, Int.reduceLT, Int.reduceLE, reduceIte, aresults, aresult, hp0, hv, hf, c_sl1In, hs', Bool.not_false] at hx; (try (rw [guardL_if] at hx; split at hx <;> rename_i hc)))); all_goals (subst hx; first | (refine ⟨_, rfl, fun ht => ?_, fun ht => ?_⟩ <;> (try simp only [bbs, beq_iff_eq, bne_iff_ne, ne_eq] at ht)) | (refine ⟨_, rfl, ?_⟩; (try simp only [tupOf])))) | refine wSkip ?_ | (refine wExit ?_; simp only [thenQ, blockQ, reduceIte, Nat.reduceEqDiff]) | refine wSeq ?_ | refine wBlock ?_)
        all_goals try (exfalso; (try simp only [bbs, beq_iff_eq, bne_iff_ne, ne_eq] at *); first | omega | exact absurd trivial (by assumption))
        all_goals exact dirty rfl
    · rw [rfR_c (c := viewF l) (by unfold rfC; rw [if_neg hf]) hf]
      repeat' (first | ((first | refine wSeqr (fun xx hx => ?_) | refine wIf (fun xx hx => ?_) | refine wReg (fun xx hx => ?_) | (refine wRet ?_; (try simp only [thenQ, blockQ]); refine ends_by (fun xx hx => ?_))); have hc := trivial; (repeat' (simp only [hc, Nat.reduceBEq, go_sem, Nat.reduceAdd, Nat.reduceMul, Nat.reduceSub, Nat.reduceEqDiff, Nat.reduceLT, Nat.reduceLeDiff, Int.reduceEq, Int.reduceLT, Int.reduceLE, reduceIte, aresults, aresult, hp0, hv, hf] at hx; (try (rw [guardL_if] at hx; split at hx <;> rename_i hc)))); all_goals (subst hx; first | (refine ⟨_, rfl, fun ht => ?_, fun ht => ?_⟩ <;> (try simp only [bbs, beq_iff_eq, bne_iff_ne, ne_eq] at ht)) | (refine ⟨_, rfl, ?_⟩; (try simp only [tupOf])))) | refine wSkip ?_ | (refine wExit ?_; simp only [thenQ, blockQ, reduceIte, Nat.reduceEqDiff]) | refine wSeq ?_ | refine wBlock ?_)
      all_goals try (exfalso; (try simp only [bbs, beq_iff_eq, bne_iff_ne, ne_eq] at *); first | omega | exact absurd trivial (by assumption))
      all_goals exact dirty rfl
  obtain ⟨v, cl, rfl, hp⟩ := key
  exact ⟨cl, hp⟩
theorem c_sRecordsFor (l : List ClaimM) (hl : l.length ≤ 1048576) (sv kind : Int) : ∀ H, call Tryd.prog cfg0 0 9 [.lst false (l.map encClaim), .v (.int .i64 sv), .v (.int .i64 kind)] H = some (rfR l sv kind, H) := fun H => by
  obtain ⟨cl, hp⟩ := p_sRecordsFor l hl sv kind
  exact call_fz Tryd.func9 rfl ok_sRecordsFor rfl (by simp only [fz_cons, fz_nil, go_sem, and_self]) hp H

theorem ok_iRecordsFor : fnOk Tryd.prog cfg0 6 Tryd.f6 = true := by kernel_rfl
theorem p_iRecordsFor (l : List ClaimM) (hl : l.length ≤ 1048576) (sv kind : Int) : ∃ cl, pure Tryd.prog cfg0 6 Tryd.f6 [.lst false (l.map encClaim), .v (.int .i64 sv), .v (.int .i64 kind)] = some (rfR l sv kind, cl) := by
  have key : ∃ v cl, v = (rfR l sv kind : AV) ∧ pure Tryd.prog cfg0 6 Tryd.f6 [.lst false (l.map encClaim), .v (.int .i64 sv), .v (.int .i64 kind)] = some (v, cl) := by
    refine pure_ex (rs := [.cell 6 29]) rfl rfl ?_
    have hp0 : ∀ b, cfg0.pol 6 b = 0 := fun b => rfl
    have hv := c_iViewFault l hl
    by_cases hf : viewF l = 0
    · by_cases hs : inB sv 0 99 = true
      · by_cases hk : typB kind = true
        · have hm := viewF_meta hf
          rw [rfR_0 (by unfold rfC; rw [if_pos hf, if_pos ⟨hs, hk⟩])]
          repeat' ((fail_if_success (first | refine wAt 8 ?_ | refine wAt 16 ?_)); first | ((first | refine wSeqr (fun xx hx => ?_) | refine wIf (fun xx hx => ?_) | refine wReg (fun xx hx => ?_) | (refine wRet ?_; (try simp only [thenQ, blockQ]); refine ends_by (fun xx hx => ?_))); have hc := trivial; (repeat' (simp only [hc, Nat.reduceBEq, go_sem, Nat.reduceAdd, Nat.reduceMul, Nat.reduceSub, Nat.reduceEqDiff, Nat.reduceLT, Nat.reduceLeDiff, Int.reduceEq, Int.reduceLT, Int.reduceLE, reduceIte, aresults, aresult, hp0, hv, hf, c_iin, c_iisType, hs, hk, Bool.not_true, List.length_map] at hx; (try (rw [guardL_if] at hx; split at hx <;> rename_i hc)))); all_goals (subst hx; first | (refine ⟨_, rfl, fun ht => ?_, fun ht => ?_⟩ <;> (try simp only [bbs, beq_iff_eq, bne_iff_ne, ne_eq] at ht)) | (refine ⟨_, rfl, ?_⟩; (try simp only [tupOf])))) | refine wSkip ?_ | (refine wExit ?_; simp only [thenQ, blockQ, reduceIte, Nat.reduceEqDiff]) | refine wSeq ?_ | refine wBlock ?_)
          all_goals try (exfalso; (try simp only [bbs, beq_iff_eq, bne_iff_ne, ne_eq] at *); first | omega | exact absurd trivial (by assumption))
          refine wLoop (fun k s => ∃ (j : Nat) (x : AV), j + k = l.length ∧ s.1 1 = .v (.int .i64 sv) ∧ s.1 2 = .v (.int .i64 kind) ∧ s.1 6 = .ptr 0 0 ∧ s.1 8 = .ptr 1 0 ∧ s.1 28 = .lst false (l.map encClaim) ∧ s.1 29 = .v (.int .i64 (l.length : Nat)) ∧ s.1 30 = .v (.int .i64 (j : Nat)) ∧ (RAcc s.2 x 3 (((recsL (l.take j) sv kind).map encRecord).flatten) (recsL (l.take j) sv kind).length) ∧ (s.2.h 0 = some [.v (.int .i64 0), .v (.slice none 0 0)] ∧ s.2.h 1 = some [.v (.int .i64 0), x] ∧ 1 < s.2.g) ∧ (Off 0 x ∧ Off 1 x)) (fun k s hI => ?_) (l.length) _ ?_
          · obtain ⟨e, H⟩ := s
            obtain ⟨j, x, hj, h1, h2, h6, h8, h28, h29, h30, hr, hb, hoff⟩ := hI
            simp only at h1 h2 h6 h8 h28 h29 h30 hr hb hoff
            obtain ⟨hb0, hb1, hgg⟩ := hb
            have n1 : (1 = H.g) = False := eq_false (by omega)
            have n2 : (1 = H.g + 1) = False := eq_false (by omega)
            have m1 : (0 = H.g) = False := eq_false (by omega)
            have m2 : (0 = H.g + 1) = False := eq_false (by omega)
            have e1 : (H.g = H.g + 1) = False := eq_false (by omega)
            have hlen := recsL_len (l.take j) sv kind
            rw [List.length_take] at hlen
            by_cases hlt : j < l.length
            · obtain ⟨c, hg, hd, hc⟩ := at_drop hlt
              have hg' := map_at (f := encClaim) hg
              have hm0 := hm c hc
              have hrt := recsL_take sv kind hg
              have hltI : ((j : Nat) : Int) < (l.length : Int) := by omega
              have w4 : IntKind.wrap .i64 ((j : Nat) + 1 : Int) = ((j + 1 : Nat) : Int) := wrap_succ (by omega)
              have t1 : IntKind.wrap .i64 (c.Meta.tdiv 65536) = c.Meta / 65536 := by rw [Int.tdiv_eq_ediv_of_nonneg (by omega)]; exact wrap_i64 (by omega) (by omega)
              have t2 : c.Meta.tmod 65536 = c.Meta % 65536 := Int.tmod_eq_emod_of_nonneg (by omega)
              by_cases ho : c.Status = 0 ∧ c.Meta / 65536 = sv
              · rw [if_pos (off_yes ho.1 ho.2)] at hrt
                have o1 : (c.Status = 0) = True := eq_true ho.1
                have o2 : (c.Meta / 65536 = sv) = True := eq_true ho.2
                by_cases hk3 : kind = 33
                · have hrec : recOf kind c = ⟨kind, c.Node, c.Meta % 65536⟩ := by unfold recOf; rw [if_pos hk3]
                  have k3 : (kind = 33) = True := eq_true hk3
                  repeat' ((fail_if_success (first | refine wAt 14 ?_)); first | ((first | refine wSeqr (fun xx hx => ?_) | refine wIf (fun xx hx => ?_) | refine wReg (fun xx hx => ?_) | (refine wRet ?_; (try simp only [thenQ, blockQ]); refine ends_by (fun xx hx => ?_))); have hc := trivial; (repeat' (simp only [hc, Nat.reduceBEq, go_sem, Nat.reduceAdd, Nat.reduceMul, Nat.reduceSub, Nat.reduceEqDiff, Nat.reduceLT, Nat.reduceLeDiff, Int.reduceEq, Int.reduceLT, Int.reduceLE, reduceIte, aresults, aresult, hp0, h1, h2, h6, h8, h28, h29, h30, hltI, hg', encClaim, t1, t2, o1, o2, k3, e1, not_true_eq_false, decide_false, List.length_map] at hx; (try (rw [guardL_if] at hx; split at hx <;> rename_i hc)))); all_goals (subst hx; first | (refine ⟨_, rfl, fun ht => ?_, fun ht => ?_⟩ <;> (try simp only [bbs, beq_iff_eq, bne_iff_ne, ne_eq] at ht)) | (refine ⟨_, rfl, ?_⟩; (try simp only [tupOf])))) | refine wSkip ?_ | (refine wExit ?_; simp only [thenQ, blockQ, reduceIte, Nat.reduceEqDiff]) | refine wSeq ?_ | refine wBlock ?_)
                  all_goals try (exfalso; (try simp only [bbs, beq_iff_eq, bne_iff_ne, ne_eq] at *); first | omega | exact absurd trivial (by assumption))
                  (first | refine wSeqr (fun xx hx => ?_) | refine wReg (fun xx hx => ?_)); have hc := trivial; (repeat' (simp only [hc, Nat.reduceBEq, go_sem, Nat.reduceAdd, Nat.reduceMul, Nat.reduceSub, Nat.reduceEqDiff, Nat.reduceLT, Nat.reduceLeDiff, Int.reduceEq, Int.reduceLT, Int.reduceLE, reduceIte, aresults, aresult, hp0, h8, hb1, n1, n2] at hx; (try (rw [guardL_if] at hx; split at hx <;> rename_i hc)))); generalize hq : aappend Tryd.prog _ _ _ _ = q at hx
                  obtain ⟨x', K2, rfl, hacc, hg2, hk2, ho2⟩ := app_rows hq el27 zero42 by42 int27 (sz := 3) rfl (by omega) (hr.ext ⟨by simp only [Hp.set_g, Hp.new_g]; omega, fun b hb => by simp only [Hp.set_h, Hp.new_h]; (repeat' split) <;> first | rfl | (exfalso; rename_i hb1 hb2; simp only [Hp.set_g, Hp.new_g] at hb1 hb2; omega) | (exfalso; rename_i hb1; simp only [Hp.set_g, Hp.new_g] at hb1; omega) | omega⟩) (m := 1) rfl (afirst_one _ _ (encRecord ⟨kind, c.Node, c.Meta % 65536⟩)) rfl (by omega) (by omega)
                  clear hq
                  have gg : 1 < K2.g := by simp only [Hp.set_g, Hp.new_g] at hg2; omega
                  have k0 : K2.h 0 = some [.v (.int .i64 0), .v (.slice none 0 0)] := (hk2 0 (by simp only [Hp.set_g, Hp.new_g]; omega) hoff.1).trans (by simp only [Hp.set_h, Hp.new_h, Hp.set_g, Hp.new_g, n1, n2, m1, m2, if_false]; exact hb0)
                  have k1 : K2.h 1 = some [.v (.int .i64 0), x] := (hk2 1 (by simp only [Hp.set_g, Hp.new_g]; omega) hoff.2).trans (by simp only [Hp.set_h, Hp.new_h, Hp.set_g, Hp.new_g, n1, n2, m1, m2, if_false]; exact hb1)
                  have o0 : Off 0 x' := ho2 0 (by simp only [Hp.set_g, Hp.new_g]; omega) hoff.1
                  have o1' : Off 1 x' := ho2 1 (by simp only [Hp.set_g, Hp.new_g]; omega) hoff.2
                  have xok := hacc.one
                  have hc := trivial; (repeat' (simp only [hc, Nat.reduceBEq, go_sem, Nat.reduceAdd, Nat.reduceMul, Nat.reduceSub, Nat.reduceEqDiff, Nat.reduceLT, Nat.reduceLeDiff, Int.reduceEq, Int.reduceLT, Int.reduceLE, reduceIte, aresults, aresult, hp0, h8, k1, xok.1, xok.2] at hx; (try (rw [guardL_if] at hx; split at hx <;> rename_i hc)))); all_goals (subst hx; refine ⟨_, rfl, ?_⟩)
                  repeat' (first | ((first | refine wSeqr (fun xx hx => ?_) | refine wIf (fun xx hx => ?_) | refine wReg (fun xx hx => ?_) | (refine wRet ?_; (try simp only [thenQ, blockQ]); refine ends_by (fun xx hx => ?_))); have hc := trivial; (repeat' (simp only [hc, Nat.reduceBEq, go_sem, Nat.reduceAdd, Nat.reduceMul, Nat.reduceSub, Nat.reduceEqDiff, Nat.reduceLT, Nat.reduceLeDiff, Int.reduceEq, Int.reduceLT, Int.reduceLE, reduceIte, aresults, aresult, hp0, h30, w4] at hx; (try (rw [guardL_if] at hx; split at hx <;> rename_i hc)))); all_goals (subst hx; first | (refine ⟨_, rfl, fun ht => ?_, fun ht => ?_⟩ <;> (try simp only [bbs, beq_iff_eq, bne_iff_ne, ne_eq] at ht)) | (refine ⟨_, rfl, ?_⟩; (try simp only [tupOf])))) | refine wSkip ?_ | (refine wExit ?_; simp only [thenQ, blockQ, reduceIte, Nat.reduceEqDiff]) | refine wSeq ?_ | refine wBlock ?_)
                  all_goals try (exfalso; (try simp only [bbs, beq_iff_eq, bne_iff_ne, ne_eq] at *); first | omega | exact absurd trivial (by assumption))
                  refine ⟨_, Nat.sub_lt (by omega) Nat.one_pos, j + 1, x', by omega, by simp only [upd_eq, Nat.reduceEqDiff, if_false, if_true, h1, h2, h6, h8, h28, h29, h30], by simp only [upd_eq, Nat.reduceEqDiff, if_false, if_true, h1, h2, h6, h8, h28, h29, h30], by simp only [upd_eq, Nat.reduceEqDiff, if_false, if_true, h1, h2, h6, h8, h28, h29, h30], by simp only [upd_eq, Nat.reduceEqDiff, if_false, if_true, h1, h2, h6, h8, h28, h29, h30], by simp only [upd_eq, Nat.reduceEqDiff, if_false, if_true, h1, h2, h6, h8, h28, h29, h30], by simp only [upd_eq, Nat.reduceEqDiff, if_false, if_true, h1, h2, h6, h8, h28, h29, h30], by simp only [upd_eq, Nat.reduceEqDiff, if_false, if_true, h1, h2, h6, h8, h28, h29, h30], ?_⟩
                  refine ⟨?_, ⟨by rw [Hp.set_h, if_neg (by omega)]; exact k0, by rw [Hp.set_h, if_pos rfl], gg⟩, o0, o1'⟩
                  rw [hrt, List.map_append, List.flatten_append, List.length_append, hrec]
                  simpa using hacc.setOff o1' _
                · have hrec : recOf kind c = ⟨kind, c.Node, 0⟩ := by unfold recOf; rw [if_neg hk3]
                  repeat' ((fail_if_success (first | refine wAt 14 ?_)); first | ((first | refine wSeqr (fun xx hx => ?_) | refine wIf (fun xx hx => ?_) | refine wReg (fun xx hx => ?_) | (refine wRet ?_; (try simp only [thenQ, blockQ]); refine ends_by (fun xx hx => ?_))); have hc := trivial; (repeat' (simp only [hc, Nat.reduceBEq, go_sem, Nat.reduceAdd, Nat.reduceMul, Nat.reduceSub, Nat.reduceEqDiff, Nat.reduceLT, Nat.reduceLeDiff, Int.reduceEq, Int.reduceLT, Int.reduceLE, reduceIte, aresults, aresult, hp0, h1, h2, h6, h8, h28, h29, h30, hltI, hg', encClaim, t1, t2, o1, o2, hk3, e1, not_true_eq_false, decide_false, List.length_map] at hx; (try (rw [guardL_if] at hx; split at hx <;> rename_i hc)))); all_goals (subst hx; first | (refine ⟨_, rfl, fun ht => ?_, fun ht => ?_⟩ <;> (try simp only [bbs, beq_iff_eq, bne_iff_ne, ne_eq] at ht)) | (refine ⟨_, rfl, ?_⟩; (try simp only [tupOf])))) | refine wSkip ?_ | (refine wExit ?_; simp only [thenQ, blockQ, reduceIte, Nat.reduceEqDiff]) | refine wSeq ?_ | refine wBlock ?_)
                  all_goals try (exfalso; (try simp only [bbs, beq_iff_eq, bne_iff_ne, ne_eq] at *); first | omega | exact absurd trivial (by assumption))
                  (first | refine wSeqr (fun xx hx => ?_) | refine wReg (fun xx hx => ?_)); have hc := trivial; (repeat' (simp only [hc, Nat.reduceBEq, go_sem, Nat.reduceAdd, Nat.reduceMul, Nat.reduceSub, Nat.reduceEqDiff, Nat.reduceLT, Nat.reduceLeDiff, Int.reduceEq, Int.reduceLT, Int.reduceLE, reduceIte, aresults, aresult, hp0, h8, hb1, n1, n2] at hx; (try (rw [guardL_if] at hx; split at hx <;> rename_i hc)))); generalize hq : aappend Tryd.prog _ _ _ _ = q at hx
                  obtain ⟨x', K2, rfl, hacc, hg2, hk2, ho2⟩ := app_rows hq el27 zero42 by42 int27 (sz := 3) rfl (by omega) (hr.ext ⟨by simp only [Hp.set_g, Hp.new_g]; omega, fun b hb => by simp only [Hp.set_h, Hp.new_h]; (repeat' split) <;> first | rfl | (exfalso; rename_i hb1 hb2; simp only [Hp.set_g, Hp.new_g] at hb1 hb2; omega) | (exfalso; rename_i hb1; simp only [Hp.set_g, Hp.new_g] at hb1; omega) | omega⟩) (m := 1) rfl (afirst_one _ _ (encRecord ⟨kind, c.Node, 0⟩)) rfl (by omega) (by omega)
                  clear hq
                  have gg : 1 < K2.g := by simp only [Hp.set_g, Hp.new_g] at hg2; omega
                  have k0 : K2.h 0 = some [.v (.int .i64 0), .v (.slice none 0 0)] := (hk2 0 (by simp only [Hp.set_g, Hp.new_g]; omega) hoff.1).trans (by simp only [Hp.set_h, Hp.new_h, Hp.set_g, Hp.new_g, n1, n2, m1, m2, if_false]; exact hb0)
                  have k1 : K2.h 1 = some [.v (.int .i64 0), x] := (hk2 1 (by simp only [Hp.set_g, Hp.new_g]; omega) hoff.2).trans (by simp only [Hp.set_h, Hp.new_h, Hp.set_g, Hp.new_g, n1, n2, m1, m2, if_false]; exact hb1)
                  have o0 : Off 0 x' := ho2 0 (by simp only [Hp.set_g, Hp.new_g]; omega) hoff.1
                  have o1' : Off 1 x' := ho2 1 (by simp only [Hp.set_g, Hp.new_g]; omega) hoff.2
                  have xok := hacc.one
                  have hc := trivial; (repeat' (simp only [hc, Nat.reduceBEq, go_sem, Nat.reduceAdd, Nat.reduceMul, Nat.reduceSub, Nat.reduceEqDiff, Nat.reduceLT, Nat.reduceLeDiff, Int.reduceEq, Int.reduceLT, Int.reduceLE, reduceIte, aresults, aresult, hp0, h8, k1, xok.1, xok.2] at hx; (try (rw [guardL_if] at hx; split at hx <;> rename_i hc)))); all_goals (subst hx; refine ⟨_, rfl, ?_⟩)
                  repeat' (first | ((first | refine wSeqr (fun xx hx => ?_) | refine wIf (fun xx hx => ?_) | refine wReg (fun xx hx => ?_) | (refine wRet ?_; (try simp only [thenQ, blockQ]); refine ends_by (fun xx hx => ?_))); have hc := trivial; (repeat' (simp only [hc, Nat.reduceBEq, go_sem, Nat.reduceAdd, Nat.reduceMul, Nat.reduceSub, Nat.reduceEqDiff, Nat.reduceLT, Nat.reduceLeDiff, Int.reduceEq, Int.reduceLT, Int.reduceLE, reduceIte, aresults, aresult, hp0, h30, w4] at hx; (try (rw [guardL_if] at hx; split at hx <;> rename_i hc)))); all_goals (subst hx; first | (refine ⟨_, rfl, fun ht => ?_, fun ht => ?_⟩ <;> (try simp only [bbs, beq_iff_eq, bne_iff_ne, ne_eq] at ht)) | (refine ⟨_, rfl, ?_⟩; (try simp only [tupOf])))) | refine wSkip ?_ | (refine wExit ?_; simp only [thenQ, blockQ, reduceIte, Nat.reduceEqDiff]) | refine wSeq ?_ | refine wBlock ?_)
                  all_goals try (exfalso; (try simp only [bbs, beq_iff_eq, bne_iff_ne, ne_eq] at *); first | omega | exact absurd trivial (by assumption))
                  refine ⟨_, Nat.sub_lt (by omega) Nat.one_pos, j + 1, x', by omega, by simp only [upd_eq, Nat.reduceEqDiff, if_false, if_true, h1, h2, h6, h8, h28, h29, h30], by simp only [upd_eq, Nat.reduceEqDiff, if_false, if_true, h1, h2, h6, h8, h28, h29, h30], by simp only [upd_eq, Nat.reduceEqDiff, if_false, if_true, h1, h2, h6, h8, h28, h29, h30], by simp only [upd_eq, Nat.reduceEqDiff, if_false, if_true, h1, h2, h6, h8, h28, h29, h30], by simp only [upd_eq, Nat.reduceEqDiff, if_false, if_true, h1, h2, h6, h8, h28, h29, h30], by simp only [upd_eq, Nat.reduceEqDiff, if_false, if_true, h1, h2, h6, h8, h28, h29, h30], by simp only [upd_eq, Nat.reduceEqDiff, if_false, if_true, h1, h2, h6, h8, h28, h29, h30], ?_⟩
                  refine ⟨?_, ⟨by rw [Hp.set_h, if_neg (by omega)]; exact k0, by rw [Hp.set_h, if_pos rfl], gg⟩, o0, o1'⟩
                  rw [hrt, List.map_append, List.flatten_append, List.length_append, hrec]
                  simpa using hacc.setOff o1' _
              · rw [if_neg (by rw [off_no ho]; simp), List.append_nil] at hrt
                have hr' := hr.ext (H' := (H.new [.v (.int .i64 0), .v (.int .i64 0), .v (.int .i64 0), .v (.int .i64 0)]).set H.g (encClaim c)) ⟨by simp only [Hp.set_g, Hp.new_g]; omega, fun b hb => by simp only [Hp.set_h, Hp.new_h]; (repeat' split) <;> first | rfl | (exfalso; rename_i hb1 hb2; simp only [Hp.set_g, Hp.new_g] at hb1 hb2; omega) | (exfalso; rename_i hb1; simp only [Hp.set_g, Hp.new_g] at hb1; omega) | omega⟩
                repeat' (first | ((first | refine wSeqr (fun xx hx => ?_) | refine wIf (fun xx hx => ?_) | refine wReg (fun xx hx => ?_) | (refine wRet ?_; (try simp only [thenQ, blockQ]); refine ends_by (fun xx hx => ?_))); have hc := trivial; (repeat' (simp only [hc, Nat.reduceBEq, go_sem, Nat.reduceAdd, Nat.reduceMul, Nat.reduceSub, Nat.reduceEqDiff, Nat.reduceLT, Nat.reduceLeDiff, Int.reduceEq, Int.reduceLT, Int.reduceLE, reduceIte, aresults, aresult, hp0, h1, h2, h6, h8, h28, h29, h30, hltI, hg', encClaim, t1, t2, w4, List.length_map] at hx; (try (rw [guardL_if] at hx; split at hx <;> rename_i hc)))); all_goals (subst hx; first | (refine ⟨_, rfl, fun ht => ?_, fun ht => ?_⟩ <;> (try simp only [bbs, beq_iff_eq, bne_iff_ne, ne_eq] at ht)) | (refine ⟨_, rfl, ?_⟩; (try simp only [tupOf])))) | refine wSkip ?_ | (refine wExit ?_; simp only [thenQ, blockQ, reduceIte, Nat.reduceEqDiff]) | refine wSeq ?_ | refine wBlock ?_)
                all_goals try (exfalso; (try simp only [bbs, beq_iff_eq, bne_iff_ne, ne_eq] at *); first | omega | exact absurd trivial (by assumption))
                all_goals first
                  | (exfalso; apply ho; (try simp only [bbs, beq_iff_eq, bne_iff_ne, ne_eq] at *); constructor <;> first | assumption | omega | (simp_all; done))
                  | skip
                all_goals (refine ⟨_, Nat.sub_lt (by omega) Nat.one_pos, j + 1, x, by omega, by simp only [upd_eq, Nat.reduceEqDiff, if_false, if_true, h1, h2, h6, h8, h28, h29, h30], by simp only [upd_eq, Nat.reduceEqDiff, if_false, if_true, h1, h2, h6, h8, h28, h29, h30], by simp only [upd_eq, Nat.reduceEqDiff, if_false, if_true, h1, h2, h6, h8, h28, h29, h30], by simp only [upd_eq, Nat.reduceEqDiff, if_false, if_true, h1, h2, h6, h8, h28, h29, h30], by simp only [upd_eq, Nat.reduceEqDiff, if_false, if_true, h1, h2, h6, h8, h28, h29, h30], by simp only [upd_eq, Nat.reduceEqDiff, if_false, if_true, h1, h2, h6, h8, h28, h29, h30], by simp only [upd_eq, Nat.reduceEqDiff, if_false, if_true, h1, h2, h6, h8, h28, h29, h30], ?_⟩; rw [hrt]; exact ⟨hr', ⟨by rw [Hp.set_h, Hp.new_h, if_neg (by omega), if_neg (by omega)]; exact hb0, by rw [Hp.set_h, Hp.new_h, if_neg (by omega), if_neg (by omega)]; exact hb1, by simp only [Hp.set_g, Hp.new_g]; omega⟩, hoff⟩)
            · have hj' : j = l.length := by omega
              have hltI : ¬ ((j : Nat) : Int) < (l.length : Int) := by omega
              have xok := hr.one
              repeat' (first | ((first | refine wSeqr (fun xx hx => ?_) | refine wIf (fun xx hx => ?_) | refine wReg (fun xx hx => ?_) | (refine wRet ?_; (try simp only [thenQ, blockQ]); refine ends_by (fun xx hx => ?_))); have hc := trivial; (repeat' (simp only [hc, Nat.reduceBEq, go_sem, Nat.reduceAdd, Nat.reduceMul, Nat.reduceSub, Nat.reduceEqDiff, Nat.reduceLT, Nat.reduceLeDiff, Int.reduceEq, Int.reduceLT, Int.reduceLE, reduceIte, aresults, aresult, hp0, h6, h8, h29, h30, hltI, hb0, hb1, xok.1, xok.2, List.length_map] at hx; (try (rw [guardL_if] at hx; split at hx <;> rename_i hc)))); all_goals (subst hx; first | (refine ⟨_, rfl, fun ht => ?_, fun ht => ?_⟩ <;> (try simp only [bbs, beq_iff_eq, bne_iff_ne, ne_eq] at ht)) | (refine ⟨_, rfl, ?_⟩; (try simp only [tupOf])))) | refine wSkip ?_ | (refine wExit ?_; simp only [thenQ, blockQ, reduceIte, Nat.reduceEqDiff]) | refine wSeq ?_ | refine wBlock ?_)
              all_goals try (exfalso; (try simp only [bbs, beq_iff_eq, bne_iff_ne, ne_eq] at *); first | omega | exact absurd trivial (by assumption))
              rw [hj', List.take_length] at hr
              exact dirty (d_rr (hr.setOff hoff.1 _) rfl)
          · exact ⟨0, .v (.slice none 0 0), by omega, rfl, rfl, rfl, rfl, rfl, rfl, rfl, RAcc.nil, ⟨rfl, rfl, by show 1 < 2; omega⟩, off_nil, off_nil⟩
        · have hk' : typB kind = false := by simpa using hk
          rw [rfR_c (c := 3) (by unfold rfC; rw [if_pos hf, if_neg (by simp [hk'])]) (by omega)]
          repeat' (first | ((first | refine wSeqr (fun xx hx => ?_) | refine wIf (fun xx hx => ?_) | refine wReg (fun xx hx => ?_) | (refine wRet ?_; (try simp only [thenQ, blockQ]); refine ends_by (fun xx hx => ?_))); have hc := trivial; (repeat' (simp only [hc, Nat.reduceBEq, go_sem, Nat.reduceAdd, Nat.reduceMul, Nat.reduceSub, Nat.reduceEqDiff, Nat.reduceLT, Nat.reduceLeDiff, Int.reduceEq, Int.reduceLT, Int.reduceLE, reduceIte, aresults, aresult, hp0, hv, hf, c_iin, c_iisType, hs, hk', Bool.not_true, Bool.not_false] at hx; (try (rw [guardL_if] at hx; split at hx <;> rename_i hc)))); all_goals (subst hx; first | (refine ⟨_, rfl, fun ht => ?_, fun ht => ?_⟩ <;> (try simp only [bbs, beq_iff_eq, bne_iff_ne, ne_eq] at ht)) | (refine ⟨_, rfl, ?_⟩; (try simp only [tupOf])))) | refine wSkip ?_ | (refine wExit ?_; simp only [thenQ, blockQ, reduceIte, Nat.reduceEqDiff]) | refine wSeq ?_ | refine wBlock ?_)
          all_goals try (exfalso; (try simp only [bbs, beq_iff_eq, bne_iff_ne, ne_eq] at *); first | omega | exact absurd trivial (by assumption))
          all_goals exact dirty rfl
      · have hs' : inB sv 0 99 = false := by simpa using hs
        rw [rfR_c (c := 3) (by unfold rfC; rw [if_pos hf, if_neg (by simp [hs'])]) (by omega)]
        repeat' (first | ((first | refine wSeqr (fun xx hx => ?_) | refine wIf (fun xx hx => ?_) | refine wReg (fun xx hx => ?_) | (refine wRet ?_; (try simp only [thenQ, blockQ]); refine ends_by (fun xx hx => ?_))); have hc := trivial; (repeat' (simp only [hc, Nat.reduceBEq, go_sem, Nat.reduceAdd, Nat.reduceMul, Nat.reduceSub, Nat.reduceEqDiff, Nat.reduceLT, Nat.reduceLeDiff, Int.reduceEq, Int.reduceLT, Int.reduceLE, reduceIte, aresults, aresult, hp0, hv, hf, c_iin, hs', Bool.not_false] at hx; (try (rw [guardL_if] at hx; split at hx <;> rename_i hc)))); all_goals (subst hx; first | (refine ⟨_, rfl, fun ht => ?_, fun ht => ?_⟩ <;> (try simp only [bbs, beq_iff_eq, bne_iff_ne, ne_eq] at ht)) | (refine ⟨_, rfl, ?_⟩; (try simp only [tupOf])))) | refine wSkip ?_ | (refine wExit ?_; simp only [thenQ, blockQ, reduceIte, Nat.reduceEqDiff]) | refine wSeq ?_ | refine wBlock ?_)
        all_goals try (exfalso; (try simp only [bbs, beq_iff_eq, bne_iff_ne, ne_eq] at *); first | omega | exact absurd trivial (by assumption))
        all_goals exact dirty rfl
    · rw [rfR_c (c := viewF l) (by unfold rfC; rw [if_neg hf]) hf]
      repeat' (first | ((first | refine wSeqr (fun xx hx => ?_) | refine wIf (fun xx hx => ?_) | refine wReg (fun xx hx => ?_) | (refine wRet ?_; (try simp only [thenQ, blockQ]); refine ends_by (fun xx hx => ?_))); have hc := trivial; (repeat' (simp only [hc, Nat.reduceBEq, go_sem, Nat.reduceAdd, Nat.reduceMul, Nat.reduceSub, Nat.reduceEqDiff, Nat.reduceLT, Nat.reduceLeDiff, Int.reduceEq, Int.reduceLT, Int.reduceLE, reduceIte, aresults, aresult, hp0, hv, hf] at hx; (try (rw [guardL_if] at hx; split at hx <;> rename_i hc)))); all_goals (subst hx; first | (refine ⟨_, rfl, fun ht => ?_, fun ht => ?_⟩ <;> (try simp only [bbs, beq_iff_eq, bne_iff_ne, ne_eq] at ht)) | (refine ⟨_, rfl, ?_⟩; (try simp only [tupOf])))) | refine wSkip ?_ | (refine wExit ?_; simp only [thenQ, blockQ, reduceIte, Nat.reduceEqDiff]) | refine wSeq ?_ | refine wBlock ?_)
      all_goals try (exfalso; (try simp only [bbs, beq_iff_eq, bne_iff_ne, ne_eq] at *); first | omega | exact absurd trivial (by assumption))
      all_goals exact dirty rfl
  obtain ⟨v, cl, rfl, hp⟩ := key
  exact ⟨cl, hp⟩
theorem c_iRecordsFor (l : List ClaimM) (hl : l.length ≤ 1048576) (sv kind : Int) : ∀ H, call Tryd.prog cfg0 0 6 [.lst false (l.map encClaim), .v (.int .i64 sv), .v (.int .i64 kind)] H = some (rfR l sv kind, H) := fun H => by
  obtain ⟨cl, hp⟩ := p_iRecordsFor l hl sv kind
  exact call_fz Tryd.func6 rfl ok_iRecordsFor rfl (by simp only [fz_cons, fz_nil, go_sem, and_self]) hp H

end
end Go.Proofs.YtepnlhjafgomgaaDoor
