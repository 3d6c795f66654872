/- Contracts: the records of a service, both sides. -/
import Derived.Test.YtepnlhjafgomgaaDoorV1
namespace Go.Proofs.YtepnlhjafgomgaaDoor
open Go Go.RowKit Go.Proofs.YtepnlhjafgomgaaDoor.Eng
set_option linter.unusedSimpArgs false
set_option linter.unusedVariables false
set_option maxRecDepth 100000
set_option maxHeartbeats 1000000
noncomputable section
/-- Is a claim alive, and does it offer the service? -/
def offB (sv : Int) (c : ClaimM) : Bool := decide (c.Status = 0) && decide (c.Meta / 65536 = sv)
def recOf (kind : Int) (c : ClaimM) : RecordM := ⟨kind, c.Node, if kind = 33 then c.Meta % 65536 else 0⟩
def recsL (l : List ClaimM) (sv kind : Int) : List RecordM := (l.filter (offB sv)).map (recOf kind)
theorem recsL_take {l : List ClaimM} {j : Nat} {c : ClaimM} (sv kind : Int) (h : l[j]? = some c) : recsL (l.take (j + 1)) sv kind = recsL (l.take j) sv kind ++ if offB sv c = true then [recOf kind c] else [] := by
  unfold recsL
  rw [List.take_add_one, h, List.filter_append, List.map_append]
  congr 1
  by_cases hx : offB sv c = true
  · rw [if_pos hx]; simp [hx]
  · rw [if_neg hx]; simp [hx]
theorem recsL_len (l : List ClaimM) (sv kind : Int) : (recsL l sv kind).length ≤ l.length := by
  unfold recsL; rw [List.length_map]; exact List.length_filter_le _ _
/-- What is told of the claims. -/
def CMeta (l : List ClaimM) : Prop := ∀ c ∈ l, 0 ≤ c.Meta ∧ c.Meta ≤ 9223372036854775807
theorem off_no {sv : Int} {c : ClaimM} (h : ¬ (c.Status = 0 ∧ c.Meta / 65536 = sv)) : offB sv c = false := by
  unfold offB
  cases hh : decide (c.Status = 0) with
  | false => rfl
  | true =>
    simp only [decide_eq_true_eq] at hh
    simp only [Bool.true_and, decide_eq_false_iff_not]
    exact fun e => h ⟨hh, e⟩
theorem off_yes {sv : Int} {c : ClaimM} (h1 : c.Status = 0) (h2 : c.Meta / 65536 = sv) : offB sv c = true := by simp [offB, h1, h2]
theorem clean_recs {H : Hp} {x : AV} {l : List RecordM} {n : Nat} (h : RAcc H x 3 ((l.map encRecord).flatten) n) : clean H depthD x = true := by
  rcases h.2 with ⟨-, e⟩ | ⟨p, -, rfl, hh⟩
  · rcases e with rfl | rfl <;> rfl
  · show ((((H.h p).getD []).drop 0).take (n * 3)).all (clean H 11) = true
    rw [hh, List.all_eq_true]
    intro y hy
    have hy := List.mem_of_mem_drop (List.mem_of_mem_take hy)
    simp only [Option.getD_some, List.mem_flatten, List.mem_map] at hy
    obtain ⟨c, ⟨r, -, rfl⟩, hy⟩ := hy
    simp only [encRecord, List.mem_cons, List.not_mem_nil, or_false] at hy
    rcases hy with rfl | rfl | rfl <;> rfl
theorem ok_sl10Records : fnOk Tryd.prog cfg0 23 Tryd.f23 = true := by kernel_rfl
theorem p_sl10Records (l : List ClaimM) (hl : l.length ≤ 1048576) (hm : CMeta l) (sv kind : Int) : pure Tryd.prog cfg0 23 Tryd.f23 [.lst false (l.map encClaim), .v (.int .i64 sv), .v (.int .i64 kind)] = some (.lst false ((recsL l sv kind).map encRecord), true) := by
  refine pure_wp (rs := [.tmp 6]) rfl rfl ?_
  have hp0 : ∀ b, cfg0.pol 23 b = 0 := fun b => rfl
  repeat' (first | ((first | refine wSeqr (fun xx hx => ?_) | refine wIf (fun xx hx => ?_) | refine wReg (fun xx hx => ?_) | (refine wRet ?_; (try simp only [thenQ, blockQ]); refine ends_by (fun xx hx => ?_))); have hc := trivial; (repeat' (simp only [hc, Nat.reduceBEq, go_sem, Nat.reduceAdd, Nat.reduceMul, Nat.reduceSub, Nat.reduceEqDiff, Nat.reduceLT, Nat.reduceLeDiff, Int.reduceEq, Int.reduceLT, Int.reduceLE, reduceIte, aresults, aresult, hp0] at hx; (try (rw [guardL_if] at hx; split at hx <;> rename_i hc)))); all_goals (subst hx; first | (refine ⟨_, rfl, fun ht => ?_, fun ht => ?_⟩ <;> (try simp only [bbs, beq_iff_eq, bne_iff_ne, ne_eq] at ht)) | (refine ⟨_, rfl, ?_⟩; (try simp only [tupOf])))) | refine wSkip ?_ | (refine wExit ?_; simp only [thenQ, blockQ, reduceIte, Nat.reduceEqDiff]) | refine wSeq ?_ | refine wBlock ?_)
  refine wLoop (fun k s => ∃ (j : Nat) (x : AV), j + k = l.length ∧ s.1 0 = .lst false (l.map encClaim) ∧ s.1 1 = .v (.int .i64 sv) ∧ s.1 2 = .v (.int .i64 kind) ∧ s.1 7 = x ∧ s.1 8 = .v (.int .i64 (j : Nat)) ∧ (RAcc s.2 x 3 (((recsL (l.take j) sv kind).map encRecord).flatten) (recsL (l.take j) sv kind).length)) (fun k s hI => ?_) (l.length) _ ?_
  · obtain ⟨e, H⟩ := s
    obtain ⟨j, x, hj, h0, h1, h2, h7, h8, hr⟩ := hI
    simp only at h0 h1 h2 h7 h8 hr
    have hlen := recsL_len (l.take j) sv kind
    rw [List.length_take] at hlen
    by_cases hlt : j < l.length
    · obtain ⟨c, hg, hd, hc⟩ := at_drop hlt
      have hg' := map_at (f := encClaim) hg
      have hm0 := hm c hc
      have hrt := recsL_take sv kind hg
      have hltI : ((j : Nat) : Int) < (l.length : Int) := by omega
      have w4 : IntKind.wrap .i64 ((j : Nat) + 1 : Int) = ((j + 1 : Nat) : Int) := wrap_succ (by omega)
      have t1 : IntKind.wrap .i64 (c.Meta.tdiv 65536) = c.Meta / 65536 := by rw [Int.tdiv_eq_ediv_of_nonneg (by omega)]; exact wrap_i64 (by omega) (by omega)
      have t2 : c.Meta.tmod 65536 = c.Meta % 65536 := Int.tmod_eq_emod_of_nonneg (by omega)
      by_cases ho : c.Status = 0 ∧ c.Meta / 65536 = sv
      · rw [if_pos (off_yes ho.1 ho.2)] at hrt
        have o1 := ho.1
        have o2 := ho.2
        by_cases hk : kind = 33
        · have hrec : recOf kind c = ⟨33, c.Node, c.Meta % 65536⟩ := by unfold recOf; rw [if_pos hk, hk]
          repeat' ((fail_if_success (first | refine wAt 9 ?_)); first | ((first | refine wSeqr (fun xx hx => ?_) | refine wIf (fun xx hx => ?_) | refine wReg (fun xx hx => ?_) | (refine wRet ?_; (try simp only [thenQ, blockQ]); refine ends_by (fun xx hx => ?_))); have hc := trivial; (repeat' (simp only [hc, Nat.reduceBEq, go_sem, Nat.reduceAdd, Nat.reduceMul, Nat.reduceSub, Nat.reduceEqDiff, Nat.reduceLT, Nat.reduceLeDiff, Int.reduceEq, Int.reduceLT, Int.reduceLE, reduceIte, aresults, aresult, hp0, h0, h1, h2, h7, h8, hltI, hg', encClaim, t1, t2, o1, o2, hk, List.length_map] at hx; (try (rw [guardL_if] at hx; split at hx <;> rename_i hc)))); all_goals (subst hx; first | (refine ⟨_, rfl, fun ht => ?_, fun ht => ?_⟩ <;> (try simp only [bbs, beq_iff_eq, bne_iff_ne, ne_eq] at ht)) | (refine ⟨_, rfl, ?_⟩; (try simp only [tupOf])))) | refine wSkip ?_ | (refine wExit ?_; simp only [thenQ, blockQ, reduceIte, Nat.reduceEqDiff]) | refine wSeq ?_ | refine wBlock ?_)
          all_goals try (exfalso; (try simp only [bbs, beq_iff_eq, bne_iff_ne, ne_eq] at *); first | omega | exact absurd trivial (by assumption))
          (first | refine wSeqr (fun xx hx => ?_) | refine wReg (fun xx hx => ?_)); have hc := trivial; (repeat' (simp only [hc, Nat.reduceBEq, go_sem, Nat.reduceAdd, Nat.reduceMul, Nat.reduceSub, Nat.reduceEqDiff, Nat.reduceLT, Nat.reduceLeDiff, Int.reduceEq, Int.reduceLT, Int.reduceLE, reduceIte, aresults, aresult, hp0, h7] at hx; (try (rw [guardL_if] at hx; split at hx <;> rename_i hc)))); generalize hq : aappend Tryd.prog _ _ _ _ = q at hx
          obtain ⟨x', K2, rfl, hacc, hg2, hk2, ho2⟩ := app_rows hq el27 zero42 by42 int27 (sz := 3) rfl (by omega) (hr.ext ⟨by simp only [Hp.set_g, Hp.new_g]; omega, fun b hb => by simp only [Hp.set_h, Hp.new_h]; (repeat' split) <;> first | omega | rfl⟩) (m := 1) rfl (afirst_one _ _ (encRecord ⟨33, c.Node, c.Meta % 65536⟩)) rfl (by omega) (by omega)
          clear hq
          have hc := trivial; (repeat' (simp only [hc, Nat.reduceBEq, go_sem, Nat.reduceAdd, Nat.reduceMul, Nat.reduceSub, Nat.reduceEqDiff, Nat.reduceLT, Nat.reduceLeDiff, Int.reduceEq, Int.reduceLT, Int.reduceLE, reduceIte, aresults, aresult, hp0] at hx; (try (rw [guardL_if] at hx; split at hx <;> rename_i hc)))); all_goals (subst hx; refine ⟨_, rfl, ?_⟩)
          repeat' (first | ((first | refine wSeqr (fun xx hx => ?_) | refine wIf (fun xx hx => ?_) | refine wReg (fun xx hx => ?_) | (refine wRet ?_; (try simp only [thenQ, blockQ]); refine ends_by (fun xx hx => ?_))); have hc := trivial; (repeat' (simp only [hc, Nat.reduceBEq, go_sem, Nat.reduceAdd, Nat.reduceMul, Nat.reduceSub, Nat.reduceEqDiff, Nat.reduceLT, Nat.reduceLeDiff, Int.reduceEq, Int.reduceLT, Int.reduceLE, reduceIte, aresults, aresult, hp0, h8, w4] at hx; (try (rw [guardL_if] at hx; split at hx <;> rename_i hc)))); all_goals (subst hx; first | (refine ⟨_, rfl, fun ht => ?_, fun ht => ?_⟩ <;> (try simp only [bbs, beq_iff_eq, bne_iff_ne, ne_eq] at ht)) | (refine ⟨_, rfl, ?_⟩; (try simp only [tupOf])))) | refine wSkip ?_ | (refine wExit ?_; simp only [thenQ, blockQ, reduceIte, Nat.reduceEqDiff]) | refine wSeq ?_ | refine wBlock ?_)
          all_goals try (exfalso; (try simp only [bbs, beq_iff_eq, bne_iff_ne, ne_eq] at *); first | omega | exact absurd trivial (by assumption))
          refine ⟨_, Nat.sub_lt (by omega) Nat.one_pos, j + 1, x', by omega, by simp only [upd_eq, Nat.reduceEqDiff, if_false, if_true, h0, h1, h2, h7, h8], by simp only [upd_eq, Nat.reduceEqDiff, if_false, if_true, h0, h1, h2, h7, h8], by simp only [upd_eq, Nat.reduceEqDiff, if_false, if_true, h0, h1, h2, h7, h8], by simp only [upd_eq, Nat.reduceEqDiff, if_false, if_true, h0, h1, h2, h7, h8], by simp only [upd_eq, Nat.reduceEqDiff, if_false, if_true, h0, h1, h2, h7, h8], ?_⟩
          rw [hrt, List.map_append, List.flatten_append, List.length_append, hrec]
          simpa using hacc
        · have hrec : recOf kind c = ⟨kind, c.Node, 0⟩ := by unfold recOf; rw [if_neg hk]
          repeat' ((fail_if_success (first | refine wAt 9 ?_)); first | ((first | refine wSeqr (fun xx hx => ?_) | refine wIf (fun xx hx => ?_) | refine wReg (fun xx hx => ?_) | (refine wRet ?_; (try simp only [thenQ, blockQ]); refine ends_by (fun xx hx => ?_))); have hc := trivial; (repeat' (simp only [hc, Nat.reduceBEq, go_sem, Nat.reduceAdd, Nat.reduceMul, Nat.reduceSub, Nat.reduceEqDiff, Nat.reduceLT, Nat.reduceLeDiff, Int.reduceEq, Int.reduceLT, Int.reduceLE, reduceIte, aresults, aresult, hp0, h0, h1, h2, h7, h8, hltI, hg', encClaim, t1, t2, o1, o2, hk, List.length_map] at hx; (try (rw [guardL_if] at hx; split at hx <;> rename_i hc)))); all_goals (subst hx; first | (refine ⟨_, rfl, fun ht => ?_, fun ht => ?_⟩ <;> (try simp only [bbs, beq_iff_eq, bne_iff_ne, ne_eq] at ht)) | (refine ⟨_, rfl, ?_⟩; (try simp only [tupOf])))) | refine wSkip ?_ | (refine wExit ?_; simp only [thenQ, blockQ, reduceIte, Nat.reduceEqDiff]) | refine wSeq ?_ | refine wBlock ?_)
          all_goals try (exfalso; (try simp only [bbs, beq_iff_eq, bne_iff_ne, ne_eq] at *); first | omega | exact absurd trivial (by assumption))
          (first | refine wSeqr (fun xx hx => ?_) | refine wReg (fun xx hx => ?_)); have hc := trivial; (repeat' (simp only [hc, Nat.reduceBEq, go_sem, Nat.reduceAdd, Nat.reduceMul, Nat.reduceSub, Nat.reduceEqDiff, Nat.reduceLT, Nat.reduceLeDiff, Int.reduceEq, Int.reduceLT, Int.reduceLE, reduceIte, aresults, aresult, hp0, h7] at hx; (try (rw [guardL_if] at hx; split at hx <;> rename_i hc)))); generalize hq : aappend Tryd.prog _ _ _ _ = q at hx
          obtain ⟨x', K2, rfl, hacc, hg2, hk2, ho2⟩ := app_rows hq el27 zero42 by42 int27 (sz := 3) rfl (by omega) (hr.ext ⟨by simp only [Hp.set_g, Hp.new_g]; omega, fun b hb => by simp only [Hp.set_h, Hp.new_h]; (repeat' split) <;> first | omega | rfl⟩) (m := 1) rfl (afirst_one _ _ (encRecord ⟨kind, c.Node, 0⟩)) rfl (by omega) (by omega)
          clear hq
          have hc := trivial; (repeat' (simp only [hc, Nat.reduceBEq, go_sem, Nat.reduceAdd, Nat.reduceMul, Nat.reduceSub, Nat.reduceEqDiff, Nat.reduceLT, Nat.reduceLeDiff, Int.reduceEq, Int.reduceLT, Int.reduceLE, reduceIte, aresults, aresult, hp0] at hx; (try (rw [guardL_if] at hx; split at hx <;> rename_i hc)))); all_goals (subst hx; refine ⟨_, rfl, ?_⟩)
          repeat' (first | ((first | refine wSeqr (fun xx hx => ?_) | refine wIf (fun xx hx => ?_) | refine wReg (fun xx hx => ?_) | (refine wRet ?_; (try simp only [thenQ, blockQ]); refine ends_by (fun xx hx => ?_))); have hc := trivial; (repeat' (simp only [hc, Nat.reduceBEq, go_sem, Nat.reduceAdd, Nat.reduceMul, Nat.reduceSub, Nat.reduceEqDiff, Nat.reduceLT, Nat.reduceLeDiff, Int.reduceEq, Int.reduceLT, Int.reduceLE, reduceIte, aresults, aresult, hp0, h8, w4] at hx; (try (rw [guardL_if] at hx; split at hx <;> rename_i hc)))); all_goals (subst hx; first | (refine ⟨_, rfl, fun ht => ?_, fun ht => ?_⟩ <;> (try simp only [bbs, beq_iff_eq, bne_iff_ne, ne_eq] at ht)) | (refine ⟨_, rfl, ?_⟩; (try simp only [tupOf])))) | refine wSkip ?_ | (refine wExit ?_; simp only [thenQ, blockQ, reduceIte, Nat.reduceEqDiff]) | refine wSeq ?_ | refine wBlock ?_)
          all_goals try (exfalso; (try simp only [bbs, beq_iff_eq, bne_iff_ne, ne_eq] at *); first | omega | exact absurd trivial (by assumption))
          refine ⟨_, Nat.sub_lt (by omega) Nat.one_pos, j + 1, x', by omega, by simp only [upd_eq, Nat.reduceEqDiff, if_false, if_true, h0, h1, h2, h7, h8], by simp only [upd_eq, Nat.reduceEqDiff, if_false, if_true, h0, h1, h2, h7, h8], by simp only [upd_eq, Nat.reduceEqDiff, if_false, if_true, h0, h1, h2, h7, h8], by simp only [upd_eq, Nat.reduceEqDiff, if_false, if_true, h0, h1, h2, h7, h8], by simp only [upd_eq, Nat.reduceEqDiff, if_false, if_true, h0, h1, h2, h7, h8], ?_⟩
          rw [hrt, List.map_append, List.flatten_append, List.length_append, hrec]
          simpa using hacc
      · rw [if_neg (by rw [off_no ho]; simp), List.append_nil] at hrt
        repeat' (first | ((first | refine wSeqr (fun xx hx => ?_) | refine wIf (fun xx hx => ?_) | refine wReg (fun xx hx => ?_) | (refine wRet ?_; (try simp only [thenQ, blockQ]); refine ends_by (fun xx hx => ?_))); have hc := trivial; (repeat' (simp only [hc, Nat.reduceBEq, go_sem, Nat.reduceAdd, Nat.reduceMul, Nat.reduceSub, Nat.reduceEqDiff, Nat.reduceLT, Nat.reduceLeDiff, Int.reduceEq, Int.reduceLT, Int.reduceLE, reduceIte, aresults, aresult, hp0, h0, h1, h2, h7, h8, hltI, hg', encClaim, t1, t2, w4, List.length_map] at hx; (try (rw [guardL_if] at hx; split at hx <;> rename_i hc)))); all_goals (subst hx; first | (refine ⟨_, rfl, fun ht => ?_, fun ht => ?_⟩ <;> (try simp only [bbs, beq_iff_eq, bne_iff_ne, ne_eq] at ht)) | (refine ⟨_, rfl, ?_⟩; (try simp only [tupOf])))) | refine wSkip ?_ | (refine wExit ?_; simp only [thenQ, blockQ, reduceIte, Nat.reduceEqDiff]) | refine wSeq ?_ | refine wBlock ?_)
        all_goals try (exfalso; (try simp only [bbs, beq_iff_eq, bne_iff_ne, ne_eq] at *); first | omega | exact absurd trivial (by assumption))
        all_goals first
          | (exfalso; apply ho; (try simp only [bbs, beq_iff_eq, bne_iff_ne, ne_eq] at *); constructor <;> first | assumption | omega | (simp_all; done))
          | skip
        all_goals (refine ⟨_, Nat.sub_lt (by omega) Nat.one_pos, j + 1, x, by omega, by simp only [upd_eq, Nat.reduceEqDiff, if_false, if_true, h0, h1, h2, h7, h8], by simp only [upd_eq, Nat.reduceEqDiff, if_false, if_true, h0, h1, h2, h7, h8], by simp only [upd_eq, Nat.reduceEqDiff, if_false, if_true, h0, h1, h2, h7, h8], by simp only [upd_eq, Nat.reduceEqDiff, if_false, if_true, h0, h1, h2, h7, h8], by simp only [upd_eq, Nat.reduceEqDiff, if_false, if_true, h0, h1, h2, h7, h8], ?_⟩; rw [hrt]; exact hr)
    · have hj' : j = l.length := by omega
      have hltI : ¬ ((j : Nat) : Int) < (l.length : Int) := by omega
      repeat' (first | ((first | refine wSeqr (fun xx hx => ?_) | refine wIf (fun xx hx => ?_) | refine wReg (fun xx hx => ?_) | (refine wRet ?_; (try simp only [thenQ, blockQ]); refine ends_by (fun xx hx => ?_))); have hc := trivial; (repeat' (simp only [hc, Nat.reduceBEq, go_sem, Nat.reduceAdd, Nat.reduceMul, Nat.reduceSub, Nat.reduceEqDiff, Nat.reduceLT, Nat.reduceLeDiff, Int.reduceEq, Int.reduceLT, Int.reduceLE, reduceIte, aresults, aresult, hp0, h0, h7, h8, hltI, List.length_map] at hx; (try (rw [guardL_if] at hx; split at hx <;> rename_i hc)))); all_goals (subst hx; first | (refine ⟨_, rfl, fun ht => ?_, fun ht => ?_⟩ <;> (try simp only [bbs, beq_iff_eq, bne_iff_ne, ne_eq] at ht)) | (refine ⟨_, rfl, ?_⟩; (try simp only [tupOf])))) | refine wSkip ?_ | (refine wExit ?_; simp only [thenQ, blockQ, reduceIte, Nat.reduceEqDiff]) | refine wSeq ?_ | refine wBlock ?_)
      all_goals try (exfalso; (try simp only [bbs, beq_iff_eq, bne_iff_ne, ne_eq] at *); first | omega | exact absurd trivial (by assumption))
      rw [hj', List.take_length] at hr
      exact ⟨deep_racc (d := 11) hr rfl (by omega) (fun _ => rfl) (fun k x hx => fzE_Record 10 k x hx), clean_recs hr⟩
  · exact ⟨0, .lst true [], by omega, rfl, rfl, rfl, rfl, rfl, RAcc.lst⟩
theorem c_sl10Records (l : List ClaimM) (hl : l.length ≤ 1048576) (hm : CMeta l) (sv kind : Int) : ∀ H, call Tryd.prog cfg0 0 23 [.lst false (l.map encClaim), .v (.int .i64 sv), .v (.int .i64 kind)] H = some (.lst false ((recsL l sv kind).map encRecord), H) :=
  call_fz Tryd.func23 rfl ok_sl10Records rfl (by simp only [fz_cons, fz_nil, go_sem, and_self]) (p_sl10Records l hl hm sv kind)

end
end Go.Proofs.YtepnlhjafgomgaaDoor
