/- Contracts: views without a fault, records of a service, both sides. -/
import Derived.Test.YtepnlhjafgomgaaDoorRA
namespace Go.Proofs.YtepnlhjafgomgaaDoor
open Go Go.RowKit Go.Proofs.YtepnlhjafgomgaaDoor.Eng
set_option linter.unusedSimpArgs false
set_option linter.unusedVariables false
set_option maxRecDepth 100000
set_option maxHeartbeats 1000000
noncomputable section
theorem ok_sl1In : fnOk Tryd.prog cfg0 25 Tryd.f25 = true := by kernel_rfl
theorem p_sl1In (a lo hi : Int) : pure Tryd.prog cfg0 25 Tryd.f25 [.v (.int .i64 a), .v (.int .i64 lo), .v (.int .i64 hi)] = some (.v (.bool (inB a lo hi)), true) := by
  refine pure_wp (rs := [.tmp 6]) rfl rfl ?_
  have hp0 : ∀ b, cfg0.pol 25 b = 0 := fun b => rfl
  repeat' (first | ((first | refine wSeqr (fun xx hx => ?_) | refine wIf (fun xx hx => ?_) | refine wReg (fun xx hx => ?_) | (refine wRet ?_; (try simp only [thenQ, blockQ]); refine ends_by (fun xx hx => ?_))); have hc := trivial; (repeat' (simp only [hc, Nat.reduceBEq, go_sem, Nat.reduceAdd, Nat.reduceMul, Nat.reduceSub, Nat.reduceEqDiff, Nat.reduceLT, Nat.reduceLeDiff, Int.reduceEq, Int.reduceLT, Int.reduceLE, reduceIte, aresults, aresult] at hx; (try (rw [guardL_if] at hx; split at hx <;> rename_i hc)))); all_goals (subst hx; first | (refine ⟨_, rfl, fun ht => ?_, fun ht => ?_⟩ <;> (try simp only [bbs, beq_iff_eq, bne_iff_ne, ne_eq] at ht)) | (refine ⟨_, rfl, ?_⟩; (try simp only [tupOf])))) | refine wSkip ?_ | (refine wExit ?_; simp only [thenQ, blockQ, reduceIte, Nat.reduceEqDiff]) | refine wSeq ?_ | refine wBlock ?_)
  all_goals (refine gives_boolv ?_; simp [inB, *])
theorem c_sl1In (a lo hi : Int) : ∀ H, call Tryd.prog cfg0 0 25 [.v (.int .i64 a), .v (.int .i64 lo), .v (.int .i64 hi)] H = some (.v (.bool (inB a lo hi)), H) :=
  call_fz Tryd.func25 rfl ok_sl1In rfl (by simp only [fz_cons, fz_nil, go_sem, and_self]) (p_sl1In a lo hi)

theorem ok_iisNode : fnOk Tryd.prog cfg0 39 Tryd.f39 = true := by kernel_rfl
theorem p_iisNode (a : Int) : pure Tryd.prog cfg0 39 Tryd.f39 [.v (.int .i64 a)] = some (.v (.bool (inB a 0 3)), true) := by
  refine pure_wp (rs := [.tmp 2]) rfl rfl ?_
  have hp0 : ∀ b, cfg0.pol 39 b = 0 := fun b => rfl
  repeat' (first | ((first | refine wSeqr (fun xx hx => ?_) | refine wIf (fun xx hx => ?_) | refine wReg (fun xx hx => ?_) | (refine wRet ?_; (try simp only [thenQ, blockQ]); refine ends_by (fun xx hx => ?_))); have hc := trivial; (repeat' (simp only [hc, Nat.reduceBEq, go_sem, Nat.reduceAdd, Nat.reduceMul, Nat.reduceSub, Nat.reduceEqDiff, Nat.reduceLT, Nat.reduceLeDiff, Int.reduceEq, Int.reduceLT, Int.reduceLE, reduceIte, aresults, aresult, hp0, c_iin] at hx; (try (rw [guardL_if] at hx; split at hx <;> rename_i hc)))); all_goals (subst hx; first | (refine ⟨_, rfl, fun ht => ?_, fun ht => ?_⟩ <;> (try simp only [bbs, beq_iff_eq, bne_iff_ne, ne_eq] at ht)) | (refine ⟨_, rfl, ?_⟩; (try simp only [tupOf])))) | refine wSkip ?_ | (refine wExit ?_; simp only [thenQ, blockQ, reduceIte, Nat.reduceEqDiff]) | refine wSeq ?_ | refine wBlock ?_)
  all_goals (refine gives_boolv ?_; simp_all [inB])
theorem c_iisNode (a : Int) : ∀ H, call Tryd.prog cfg0 0 39 [.v (.int .i64 a)] H = some (.v (.bool (inB a 0 3)), H) :=
  call_fz Tryd.func39 rfl ok_iisNode rfl (by simp only [fz_cons, fz_nil, go_sem, and_self]) (p_iisNode a)

theorem ok_iisStatus : fnOk Tryd.prog cfg0 40 Tryd.f40 = true := by kernel_rfl
theorem p_iisStatus (a : Int) : pure Tryd.prog cfg0 40 Tryd.f40 [.v (.int .i64 a)] = some (.v (.bool (inB a 0 2)), true) := by
  refine pure_wp (rs := [.tmp 2]) rfl rfl ?_
  have hp0 : ∀ b, cfg0.pol 40 b = 0 := fun b => rfl
  repeat' (first | ((first | refine wSeqr (fun xx hx => ?_) | refine wIf (fun xx hx => ?_) | refine wReg (fun xx hx => ?_) | (refine wRet ?_; (try simp only [thenQ, blockQ]); refine ends_by (fun xx hx => ?_))); have hc := trivial; (repeat' (simp only [hc, Nat.reduceBEq, go_sem, Nat.reduceAdd, Nat.reduceMul, Nat.reduceSub, Nat.reduceEqDiff, Nat.reduceLT, Nat.reduceLeDiff, Int.reduceEq, Int.reduceLT, Int.reduceLE, reduceIte, aresults, aresult, hp0, c_iin] at hx; (try (rw [guardL_if] at hx; split at hx <;> rename_i hc)))); all_goals (subst hx; first | (refine ⟨_, rfl, fun ht => ?_, fun ht => ?_⟩ <;> (try simp only [bbs, beq_iff_eq, bne_iff_ne, ne_eq] at ht)) | (refine ⟨_, rfl, ?_⟩; (try simp only [tupOf])))) | refine wSkip ?_ | (refine wExit ?_; simp only [thenQ, blockQ, reduceIte, Nat.reduceEqDiff]) | refine wSeq ?_ | refine wBlock ?_)
  all_goals (refine gives_boolv ?_; simp_all [inB])
theorem c_iisStatus (a : Int) : ∀ H, call Tryd.prog cfg0 0 40 [.v (.int .i64 a)] H = some (.v (.bool (inB a 0 2)), H) :=
  call_fz Tryd.func40 rfl ok_iisStatus rfl (by simp only [fz_cons, fz_nil, go_sem, and_self]) (p_iisStatus a)

def claimOk (c : ClaimM) : Bool := inB c.Node 0 3 && inB c.Inc 0 1000000 && inB c.Status 0 2 && inB c.Meta 0 9999999
def claimFault (c : ClaimM) : Int := if claimOk c = true then 0 else 3
theorem ok_iClaimFault : fnOk Tryd.prog cfg0 34 Tryd.f34 = true := by kernel_rfl
theorem p_iClaimFault (c : ClaimM) : pure Tryd.prog cfg0 34 Tryd.f34 [.agg [.v (.int .i64 c.Node), .v (.int .i64 c.Inc), .v (.int .i64 c.Status), .v (.int .i64 c.Meta)]] = some (.v (.int .i64 (claimFault c)), true) := by
  refine pure_wp (rs := [.tmp 2]) rfl rfl ?_
  have hp0 : ∀ b, cfg0.pol 34 b = 0 := fun b => rfl
  repeat' (first | ((first | refine wSeqr (fun xx hx => ?_) | refine wIf (fun xx hx => ?_) | refine wReg (fun xx hx => ?_) | (refine wRet ?_; (try simp only [thenQ, blockQ]); refine ends_by (fun xx hx => ?_))); have hc := trivial; (repeat' (simp only [hc, Nat.reduceBEq, go_sem, Nat.reduceAdd, Nat.reduceMul, Nat.reduceSub, Nat.reduceEqDiff, Nat.reduceLT, Nat.reduceLeDiff, Int.reduceEq, Int.reduceLT, Int.reduceLE, reduceIte, aresults, aresult, hp0, c_iisNode, c_iin, c_iisStatus] at hx; (try (rw [guardL_if] at hx; split at hx <;> rename_i hc)))); all_goals (subst hx; first | (refine ⟨_, rfl, fun ht => ?_, fun ht => ?_⟩ <;> (try simp only [bbs, beq_iff_eq, bne_iff_ne, ne_eq] at ht)) | (refine ⟨_, rfl, ?_⟩; (try simp only [tupOf])))) | refine wSkip ?_ | (refine wExit ?_; simp only [thenQ, blockQ, reduceIte, Nat.reduceEqDiff]) | refine wSeq ?_ | refine wBlock ?_)
  all_goals (refine gives_intv ?_; unfold claimFault claimOk; (try simp only [bbs, beq_iff_eq, bne_iff_ne, ne_eq] at *); (repeat' split) <;> (try simp only [bbs, beq_iff_eq, bne_iff_ne, ne_eq] at *) <;> omega)
theorem c_iClaimFault (c : ClaimM) : ∀ H, call Tryd.prog cfg0 0 34 [.agg [.v (.int .i64 c.Node), .v (.int .i64 c.Inc), .v (.int .i64 c.Status), .v (.int .i64 c.Meta)]] H = some (.v (.int .i64 (claimFault c)), H) :=
  call_fz Tryd.func34 rfl ok_iClaimFault rfl (by simp only [fz_cons, fz_nil, go_sem, and_self]) (p_iClaimFault c)

theorem ok_sClaimFault : fnOk Tryd.prog cfg0 35 Tryd.f35 = true := by kernel_rfl
theorem p_sClaimFault (c : ClaimM) : pure Tryd.prog cfg0 35 Tryd.f35 [.agg [.v (.int .i64 c.Node), .v (.int .i64 c.Inc), .v (.int .i64 c.Status), .v (.int .i64 c.Meta)]] = some (.v (.int .i64 (claimFault c)), true) := by
  refine pure_wp (rs := [.tmp 2]) rfl rfl ?_
  have hp0 : ∀ b, cfg0.pol 35 b = 0 := fun b => rfl
  repeat' (first | ((first | refine wSeqr (fun xx hx => ?_) | refine wIf (fun xx hx => ?_) | refine wReg (fun xx hx => ?_) | (refine wRet ?_; (try simp only [thenQ, blockQ]); refine ends_by (fun xx hx => ?_))); have hc := trivial; (repeat' (simp only [hc, Nat.reduceBEq, go_sem, Nat.reduceAdd, Nat.reduceMul, Nat.reduceSub, Nat.reduceEqDiff, Nat.reduceLT, Nat.reduceLeDiff, Int.reduceEq, Int.reduceLT, Int.reduceLE, reduceIte, aresults, aresult, hp0, c_sl1In] at hx; (try (rw [guardL_if] at hx; split at hx <;> rename_i hc)))); all_goals (subst hx; first | (refine ⟨_, rfl, fun ht => ?_, fun ht => ?_⟩ <;> (try simp only [bbs, beq_iff_eq, bne_iff_ne, ne_eq] at ht)) | (refine ⟨_, rfl, ?_⟩; (try simp only [tupOf])))) | refine wSkip ?_ | (refine wExit ?_; simp only [thenQ, blockQ, reduceIte, Nat.reduceEqDiff]) | refine wSeq ?_ | refine wBlock ?_)
  all_goals (refine gives_intv ?_; unfold claimFault claimOk; (try simp only [bbs, beq_iff_eq, bne_iff_ne, ne_eq] at *); (repeat' split) <;> (try simp only [bbs, beq_iff_eq, bne_iff_ne, ne_eq] at *) <;> omega)
theorem c_sClaimFault (c : ClaimM) : ∀ H, call Tryd.prog cfg0 0 35 [.agg [.v (.int .i64 c.Node), .v (.int .i64 c.Inc), .v (.int .i64 c.Status), .v (.int .i64 c.Meta)]] H = some (.v (.int .i64 (claimFault c)), H) :=
  call_fz Tryd.func35 rfl ok_sClaimFault rfl (by simp only [fz_cons, fz_nil, go_sem, and_self]) (p_sClaimFault c)

/-- The first claim's fault. -/
def fstC : List ClaimM → Int
  | [] => 0
  | c :: r => if claimFault c = 0 then fstC r else claimFault c
/-- Nodes rise. -/
def ascC (l : List ClaimM) : Prop := ∀ (i : Nat) x y, l[i]? = some x → l[i + 1]? = some y → x.Node < y.Node
open Classical in
def viewF (l : List ClaimM) : Int := if 4 < l.length then 2 else if fstC l = 0 then if ascC l then 0 else 1 else fstC l
theorem fstC_none {xs : List ClaimM} (h : ∀ m ∈ xs, claimFault m = 0) : fstC xs = 0 := by
  induction xs with
  | nil => rfl
  | cons m r ih => simp only [fstC, h m (by simp), if_true]; exact ih fun x hx => h x (by simp [hx])
theorem fstC_at {xs : List ClaimM} {j : Nat} {m : ClaimM} (h : ∀ m ∈ xs.take j, claimFault m = 0) (hg : xs[j]? = some m) (hm : ¬ claimFault m = 0) : fstC xs = claimFault m := by
  induction xs generalizing j with
  | nil => simp at hg
  | cons y r ih =>
    cases j with
    | zero => simp only [List.getElem?_cons_zero, Option.some.injEq] at hg; subst hg; simp only [fstC, if_neg hm]
    | succ j =>
      simp only [List.take_succ_cons, List.mem_cons, forall_eq_or_imp] at h
      simp only [fstC, h.1, if_true]
      exact ih h.2 (by simpa using hg)
theorem fstC_zero {xs : List ClaimM} (h : fstC xs = 0) : ∀ m ∈ xs, claimFault m = 0 := by
  induction xs with
  | nil => simp
  | cons y r ih =>
    unfold fstC at h
    split at h
    · rename_i hy
      intro m hm
      rcases List.mem_cons.1 hm with rfl | hm
      · exact hy
      · exact ih h m hm
    · rename_i hy; exact absurd h hy
theorem take_nextC {xs : List ClaimM} {j : Nat} {m : ClaimM} (h : ∀ m ∈ xs.take j, claimFault m = 0) (hg : xs[j]? = some m) (hm : claimFault m = 0) : ∀ m ∈ xs.take (j + 1), claimFault m = 0 := by
  intro y hy
  rw [List.take_add_one, hg] at hy
  rcases List.mem_append.1 hy with hy | hy
  · exact h y hy
  · simp at hy; subst hy; exact hm
theorem viewF_ok {l : List ClaimM} (h : viewF l = 0) : l.length ≤ 4 ∧ ∀ c ∈ l, claimFault c = 0 := by
  unfold viewF at h
  split at h
  · omega
  split at h
  · rename_i h1 h2; exact ⟨by omega, fstC_zero h2⟩
  · rename_i h1 h2; exact absurd h h2
theorem ok_iViewFault : fnOk Tryd.prog cfg0 19 Tryd.f19 = true := by kernel_rfl
theorem p_iViewFault (l : List ClaimM) (hl : l.length ≤ 1048576) : pure Tryd.prog cfg0 19 Tryd.f19 [.lst false (l.map encClaim)] = some (.v (.int .i64 (viewF l)), true) := by
  refine pure_wp (rs := [.tmp 2]) rfl rfl ?_
  have hp0 : ∀ b, cfg0.pol 19 b = 0 := fun b => rfl
  by_cases hbig : 4 < l.length
  · rw [show viewF l = 2 from if_pos hbig]
    repeat' (first | ((first | refine wSeqr (fun xx hx => ?_) | refine wIf (fun xx hx => ?_) | refine wReg (fun xx hx => ?_) | (refine wRet ?_; (try simp only [thenQ, blockQ]); refine ends_by (fun xx hx => ?_))); have hc := trivial; (repeat' (simp only [hc, Nat.reduceBEq, go_sem, Nat.reduceAdd, Nat.reduceMul, Nat.reduceSub, Nat.reduceEqDiff, Nat.reduceLT, Nat.reduceLeDiff, Int.reduceEq, Int.reduceLT, Int.reduceLE, reduceIte, aresults, aresult, hp0, List.length_map] at hx; (try (rw [guardL_if] at hx; split at hx <;> rename_i hc)))); all_goals (subst hx; first | (refine ⟨_, rfl, fun ht => ?_, fun ht => ?_⟩ <;> (try simp only [bbs, beq_iff_eq, bne_iff_ne, ne_eq] at ht)) | (refine ⟨_, rfl, ?_⟩; (try simp only [tupOf])))) | refine wSkip ?_ | (refine wExit ?_; simp only [thenQ, blockQ, reduceIte, Nat.reduceEqDiff]) | refine wSeq ?_ | refine wBlock ?_)
    all_goals try (exfalso; (try simp only [bbs, beq_iff_eq, bne_iff_ne, ne_eq] at *); first | omega | exact absurd trivial (by assumption))
    all_goals exact gives_intv rfl
  repeat' ((fail_if_success (first | refine wAt 4 ?_ | refine wAt 10 ?_)); first | ((first | refine wSeqr (fun xx hx => ?_) | refine wIf (fun xx hx => ?_) | refine wReg (fun xx hx => ?_) | (refine wRet ?_; (try simp only [thenQ, blockQ]); refine ends_by (fun xx hx => ?_))); have hc := trivial; (repeat' (simp only [hc, Nat.reduceBEq, go_sem, Nat.reduceAdd, Nat.reduceMul, Nat.reduceSub, Nat.reduceEqDiff, Nat.reduceLT, Nat.reduceLeDiff, Int.reduceEq, Int.reduceLT, Int.reduceLE, reduceIte, aresults, aresult, hp0, List.length_map] at hx; (try (rw [guardL_if] at hx; split at hx <;> rename_i hc)))); all_goals (subst hx; first | (refine ⟨_, rfl, fun ht => ?_, fun ht => ?_⟩ <;> (try simp only [bbs, beq_iff_eq, bne_iff_ne, ne_eq] at ht)) | (refine ⟨_, rfl, ?_⟩; (try simp only [tupOf])))) | refine wSkip ?_ | (refine wExit ?_; simp only [thenQ, blockQ, reduceIte, Nat.reduceEqDiff]) | refine wSeq ?_ | refine wBlock ?_)
  all_goals try (exfalso; (try simp only [bbs, beq_iff_eq, bne_iff_ne, ne_eq] at *); first | omega | exact absurd trivial (by assumption))
  refine wLoop (fun k s => ∃ (j : Nat), j + k = l.length ∧ s.1 0 = .lst false (l.map encClaim) ∧ s.1 10 = .lst false (l.map encClaim) ∧ s.1 11 = .v (.int .i64 (l.length : Nat)) ∧ s.1 12 = .v (.int .i64 (j : Nat)) ∧ (∀ m ∈ l.take j, claimFault m = 0)) (fun k s hI => ?_) (l.length) _ ?_
  · obtain ⟨e, H⟩ := s
    obtain ⟨j, hj, h0, h10, h11, h12, hz⟩ := hI
    simp only at h0 h10 h11 h12 hz
    by_cases hlt : j < l.length
    · obtain ⟨m, hg, hd, hm⟩ := at_drop hlt
      have hg' := map_at (f := encClaim) hg
      have hltI : ((j : Nat) : Int) < (l.length : Int) := by omega
      have w4 : IntKind.wrap .i64 ((j : Nat) + 1 : Int) = ((j + 1 : Nat) : Int) := wrap_succ (by omega)
      by_cases hf : claimFault m = 0
      · repeat' (first | ((first | refine wSeqr (fun xx hx => ?_) | refine wIf (fun xx hx => ?_) | refine wReg (fun xx hx => ?_) | (refine wRet ?_; (try simp only [thenQ, blockQ]); refine ends_by (fun xx hx => ?_))); have hc := trivial; (repeat' (simp only [hc, Nat.reduceBEq, go_sem, Nat.reduceAdd, Nat.reduceMul, Nat.reduceSub, Nat.reduceEqDiff, Nat.reduceLT, Nat.reduceLeDiff, Int.reduceEq, Int.reduceLT, Int.reduceLE, reduceIte, aresults, aresult, hp0, h0, h10, h11, h12, hltI, hg', encClaim, c_iClaimFault, hf, w4, List.length_map] at hx; (try (rw [guardL_if] at hx; split at hx <;> rename_i hc)))); all_goals (subst hx; first | (refine ⟨_, rfl, fun ht => ?_, fun ht => ?_⟩ <;> (try simp only [bbs, beq_iff_eq, bne_iff_ne, ne_eq] at ht)) | (refine ⟨_, rfl, ?_⟩; (try simp only [tupOf])))) | refine wSkip ?_ | (refine wExit ?_; simp only [thenQ, blockQ, reduceIte, Nat.reduceEqDiff]) | refine wSeq ?_ | refine wBlock ?_)
        all_goals try (exfalso; (try simp only [bbs, beq_iff_eq, bne_iff_ne, ne_eq] at *); first | omega | exact absurd trivial (by assumption))
        refine ⟨_, Nat.sub_lt (by omega) Nat.one_pos, j + 1, by omega, by simp only [upd_eq, Nat.reduceEqDiff, if_false, if_true, h0, h10, h11, h12], by simp only [upd_eq, Nat.reduceEqDiff, if_false, if_true, h0, h10, h11, h12], by simp only [upd_eq, Nat.reduceEqDiff, if_false, if_true, h0, h10, h11, h12], by simp only [upd_eq, Nat.reduceEqDiff, if_false, if_true, h0, h10, h11, h12], ?_⟩
        exact take_nextC hz hg hf
      · rw [show viewF l = claimFault m by unfold viewF; rw [if_neg hbig, fstC_at hz hg hf, if_neg hf]]
        repeat' (first | ((first | refine wSeqr (fun xx hx => ?_) | refine wIf (fun xx hx => ?_) | refine wReg (fun xx hx => ?_) | (refine wRet ?_; (try simp only [thenQ, blockQ]); refine ends_by (fun xx hx => ?_))); have hc := trivial; (repeat' (simp only [hc, Nat.reduceBEq, go_sem, Nat.reduceAdd, Nat.reduceMul, Nat.reduceSub, Nat.reduceEqDiff, Nat.reduceLT, Nat.reduceLeDiff, Int.reduceEq, Int.reduceLT, Int.reduceLE, reduceIte, aresults, aresult, hp0, h0, h10, h11, h12, hltI, hg', encClaim, c_iClaimFault, hf, w4, List.length_map] at hx; (try (rw [guardL_if] at hx; split at hx <;> rename_i hc)))); all_goals (subst hx; first | (refine ⟨_, rfl, fun ht => ?_, fun ht => ?_⟩ <;> (try simp only [bbs, beq_iff_eq, bne_iff_ne, ne_eq] at ht)) | (refine ⟨_, rfl, ?_⟩; (try simp only [tupOf])))) | refine wSkip ?_ | (refine wExit ?_; simp only [thenQ, blockQ, reduceIte, Nat.reduceEqDiff]) | refine wSeq ?_ | refine wBlock ?_)
        all_goals try (exfalso; (try simp only [bbs, beq_iff_eq, bne_iff_ne, ne_eq] at *); first | omega | exact absurd trivial (by assumption))
        all_goals exact gives_intv rfl
    · have hj' : j = l.length := by omega
      have hltI : ¬ ((j : Nat) : Int) < (l.length : Int) := by omega
      rw [hj', List.take_length] at hz
      have hf := fstC_none hz
      repeat' ((fail_if_success (first | refine wAt 11 ?_)); first | ((first | refine wSeqr (fun xx hx => ?_) | refine wIf (fun xx hx => ?_) | refine wReg (fun xx hx => ?_) | (refine wRet ?_; (try simp only [thenQ, blockQ]); refine ends_by (fun xx hx => ?_))); have hc := trivial; (repeat' (simp only [hc, Nat.reduceBEq, go_sem, Nat.reduceAdd, Nat.reduceMul, Nat.reduceSub, Nat.reduceEqDiff, Nat.reduceLT, Nat.reduceLeDiff, Int.reduceEq, Int.reduceLT, Int.reduceLE, reduceIte, aresults, aresult, hp0, h0, h10, h11, h12, hltI, List.length_map] at hx; (try (rw [guardL_if] at hx; split at hx <;> rename_i hc)))); all_goals (subst hx; first | (refine ⟨_, rfl, fun ht => ?_, fun ht => ?_⟩ <;> (try simp only [bbs, beq_iff_eq, bne_iff_ne, ne_eq] at ht)) | (refine ⟨_, rfl, ?_⟩; (try simp only [tupOf])))) | refine wSkip ?_ | (refine wExit ?_; simp only [thenQ, blockQ, reduceIte, Nat.reduceEqDiff]) | refine wSeq ?_ | refine wBlock ?_)
      all_goals try (exfalso; (try simp only [bbs, beq_iff_eq, bne_iff_ne, ne_eq] at *); first | omega | exact absurd trivial (by assumption))
      refine wLoop (fun k s => ∃ (j : Nat), j + k = l.length - 1 ∧ s.1 0 = .lst false (l.map encClaim) ∧ s.1 6 = .v (.int .i64 ((j + 1 : Nat) : Int)) ∧ (∀ (i : Nat) x y, i < j → l[i]? = some x → l[i + 1]? = some y → x.Node < y.Node)) (fun k s hI => ?_) (l.length - 1) _ ?_
      · obtain ⟨e, H⟩ := s
        obtain ⟨j, hj, h0, h6, hasc⟩ := hI
        simp only at h0 h6 hasc
        by_cases hp : j + 1 < l.length
        · obtain ⟨x, gx, -, -⟩ := at_drop (show j < l.length by omega)
          obtain ⟨y, gy, -, -⟩ := at_drop hp
          have gx' := map_at (f := encClaim) gx
          have gy' := map_at (f := encClaim) gy
          have hpI : ((j + 1 : Nat) : Int) < (l.length : Int) := by omega
          have w5 : IntKind.wrap .i64 (((j + 1 : Nat) : Int) - 1) = ((j : Nat) : Int) := by rw [wrap_i64 (by omega) (by omega)]; omega
          have w6 : IntKind.wrap .i64 (((j + 1 : Nat) : Int) + 1) = ((j + 1 + 1 : Nat) : Int) := wrap_succ (by omega)
          by_cases hxy : x.Node < y.Node
          · have n1 : ¬ y.Node ≤ x.Node := by omega
            repeat' (first | ((first | refine wSeqr (fun xx hx => ?_) | refine wIf (fun xx hx => ?_) | refine wReg (fun xx hx => ?_) | (refine wRet ?_; (try simp only [thenQ, blockQ]); refine ends_by (fun xx hx => ?_))); have hc := trivial; (repeat' (simp only [hc, Nat.reduceBEq, go_sem, Nat.reduceAdd, Nat.reduceMul, Nat.reduceSub, Nat.reduceEqDiff, Nat.reduceLT, Nat.reduceLeDiff, Int.reduceEq, Int.reduceLT, Int.reduceLE, reduceIte, aresults, aresult, hp0, h0, h6, hpI, gx', gy', encClaim, w5, w6, n1, List.length_map] at hx; (try (rw [guardL_if] at hx; split at hx <;> rename_i hc)))); all_goals (subst hx; first | (refine ⟨_, rfl, fun ht => ?_, fun ht => ?_⟩ <;> (try simp only [bbs, beq_iff_eq, bne_iff_ne, ne_eq] at ht)) | (refine ⟨_, rfl, ?_⟩; (try simp only [tupOf])))) | refine wSkip ?_ | (refine wExit ?_; simp only [thenQ, blockQ, reduceIte, Nat.reduceEqDiff]) | refine wSeq ?_ | refine wBlock ?_)
            all_goals try (exfalso; (try simp only [bbs, beq_iff_eq, bne_iff_ne, ne_eq] at *); first | omega | exact absurd trivial (by assumption))
            refine ⟨_, Nat.sub_lt (by omega) Nat.one_pos, j + 1, by omega, by simp only [upd_eq, Nat.reduceEqDiff, if_false, if_true, h0, h6], by simp only [upd_eq, Nat.reduceEqDiff, if_false, if_true, h0, h6], ?_⟩
            intro i a b hi ga gb
            by_cases hij : i = j
            · subst hij; rw [gx] at ga; rw [gy] at gb
              obtain rfl := Option.some.inj ga; obtain rfl := Option.some.inj gb; exact hxy
            · exact hasc i a b (by omega) ga gb
          · have n1 : y.Node ≤ x.Node := by omega
            rw [show viewF l = 1 by unfold viewF; rw [if_neg hbig, if_pos hf, if_neg (fun h => hxy (h j x y gx gy))]]
            repeat' (first | ((first | refine wSeqr (fun xx hx => ?_) | refine wIf (fun xx hx => ?_) | refine wReg (fun xx hx => ?_) | (refine wRet ?_; (try simp only [thenQ, blockQ]); refine ends_by (fun xx hx => ?_))); have hc := trivial; (repeat' (simp only [hc, Nat.reduceBEq, go_sem, Nat.reduceAdd, Nat.reduceMul, Nat.reduceSub, Nat.reduceEqDiff, Nat.reduceLT, Nat.reduceLeDiff, Int.reduceEq, Int.reduceLT, Int.reduceLE, reduceIte, aresults, aresult, hp0, h0, h6, hpI, gx', gy', encClaim, w5, w6, n1, List.length_map] at hx; (try (rw [guardL_if] at hx; split at hx <;> rename_i hc)))); all_goals (subst hx; first | (refine ⟨_, rfl, fun ht => ?_, fun ht => ?_⟩ <;> (try simp only [bbs, beq_iff_eq, bne_iff_ne, ne_eq] at ht)) | (refine ⟨_, rfl, ?_⟩; (try simp only [tupOf])))) | refine wSkip ?_ | (refine wExit ?_; simp only [thenQ, blockQ, reduceIte, Nat.reduceEqDiff]) | refine wSeq ?_ | refine wBlock ?_)
            all_goals try (exfalso; (try simp only [bbs, beq_iff_eq, bne_iff_ne, ne_eq] at *); first | omega | exact absurd trivial (by assumption))
            all_goals exact gives_intv rfl
        · have hpI : ¬ ((j + 1 : Nat) : Int) < (l.length : Int) := by omega
          rw [show viewF l = 0 by unfold viewF; rw [if_neg hbig, if_pos hf, if_pos (show ascC l from fun i x y gx gy => hasc i x y (by have := (List.getElem?_eq_some_iff.1 gy).1; omega) gx gy)]]
          repeat' (first | ((first | refine wSeqr (fun xx hx => ?_) | refine wIf (fun xx hx => ?_) | refine wReg (fun xx hx => ?_) | (refine wRet ?_; (try simp only [thenQ, blockQ]); refine ends_by (fun xx hx => ?_))); have hc := trivial; (repeat' (simp only [hc, Nat.reduceBEq, go_sem, Nat.reduceAdd, Nat.reduceMul, Nat.reduceSub, Nat.reduceEqDiff, Nat.reduceLT, Nat.reduceLeDiff, Int.reduceEq, Int.reduceLT, Int.reduceLE, reduceIte, aresults, aresult, hp0, h0, h6, hpI, List.length_map] at hx; (try (rw [guardL_if] at hx; split at hx <;> rename_i hc)))); all_goals (subst hx; first | (refine ⟨_, rfl, fun ht => ?_, fun ht => ?_⟩ <;> (try simp only [bbs, beq_iff_eq, bne_iff_ne, ne_eq] at ht)) | (refine ⟨_, rfl, ?_⟩; (try simp only [tupOf])))) | refine wSkip ?_ | (refine wExit ?_; simp only [thenQ, blockQ, reduceIte, Nat.reduceEqDiff]) | refine wSeq ?_ | refine wBlock ?_)
          all_goals try (exfalso; (try simp only [bbs, beq_iff_eq, bne_iff_ne, ne_eq] at *); first | omega | exact absurd trivial (by assumption))
          all_goals exact gives_intv rfl
      · 
        refine ⟨0, by omega, by simp only [upd_eq, Nat.reduceEqDiff, if_false, h0], rfl, fun i x y hi => by omega⟩
  · refine ⟨0, by omega, rfl, rfl, rfl, rfl, ?_⟩
    simp
theorem c_iViewFault (l : List ClaimM) (hl : l.length ≤ 1048576) : ∀ H, call Tryd.prog cfg0 0 19 [.lst false (l.map encClaim)] H = some (.v (.int .i64 (viewF l)), H) :=
  call_fz Tryd.func19 rfl ok_iViewFault rfl (by simp only [fz_cons, fz_nil, go_sem, and_self]) (p_iViewFault l hl)

theorem ok_sViewFault : fnOk Tryd.prog cfg0 24 Tryd.f24 = true := by kernel_rfl
theorem p_sViewFault (l : List ClaimM) (hl : l.length ≤ 1048576) : pure Tryd.prog cfg0 24 Tryd.f24 [.lst false (l.map encClaim)] = some (.v (.int .i64 (viewF l)), true) := by
  refine pure_wp (rs := [.tmp 2]) rfl rfl ?_
  have hp0 : ∀ b, cfg0.pol 24 b = 0 := fun b => rfl
  by_cases hbig : 4 < l.length
  · rw [show viewF l = 2 from if_pos hbig]
    repeat' (first | ((first | refine wSeqr (fun xx hx => ?_) | refine wIf (fun xx hx => ?_) | refine wReg (fun xx hx => ?_) | (refine wRet ?_; (try simp only [thenQ, blockQ]); refine ends_by (fun xx hx => ?_))); have hc := trivial; (repeat' (simp only [hc, Nat.reduceBEq, go_sem, Nat.reduceAdd, Nat.reduceMul, Nat.reduceSub, Nat.reduceEqDiff, Nat.reduceLT, Nat.reduceLeDiff, Int.reduceEq, Int.reduceLT, Int.reduceLE, reduceIte, aresults, aresult, hp0, List.length_map] at hx; (try (rw [guardL_if] at hx; split at hx <;> rename_i hc)))); all_goals (subst hx; first | (refine ⟨_, rfl, fun ht => ?_, fun ht => ?_⟩ <;> (try simp only [bbs, beq_iff_eq, bne_iff_ne, ne_eq] at ht)) | (refine ⟨_, rfl, ?_⟩; (try simp only [tupOf])))) | refine wSkip ?_ | (refine wExit ?_; simp only [thenQ, blockQ, reduceIte, Nat.reduceEqDiff]) | refine wSeq ?_ | refine wBlock ?_)
    all_goals try (exfalso; (try simp only [bbs, beq_iff_eq, bne_iff_ne, ne_eq] at *); first | omega | exact absurd trivial (by assumption))
    all_goals exact gives_intv rfl
  repeat' ((fail_if_success (first | refine wAt 4 ?_ | refine wAt 9 ?_)); first | ((first | refine wSeqr (fun xx hx => ?_) | refine wIf (fun xx hx => ?_) | refine wReg (fun xx hx => ?_) | (refine wRet ?_; (try simp only [thenQ, blockQ]); refine ends_by (fun xx hx => ?_))); have hc := trivial; (repeat' (simp only [hc, Nat.reduceBEq, go_sem, Nat.reduceAdd, Nat.reduceMul, Nat.reduceSub, Nat.reduceEqDiff, Nat.reduceLT, Nat.reduceLeDiff, Int.reduceEq, Int.reduceLT, Int.reduceLE, reduceIte, aresults, aresult, hp0, List.length_map] at hx; (try (rw [guardL_if] at hx; split at hx <;> rename_i hc)))); all_goals (subst hx; first | (refine ⟨_, rfl, fun ht => ?_, fun ht => ?_⟩ <;> (try simp only [bbs, beq_iff_eq, bne_iff_ne, ne_eq] at ht)) | (refine ⟨_, rfl, ?_⟩; (try simp only [tupOf])))) | refine wSkip ?_ | (refine wExit ?_; simp only [thenQ, blockQ, reduceIte, Nat.reduceEqDiff]) | refine wSeq ?_ | refine wBlock ?_)
  all_goals try (exfalso; (try simp only [bbs, beq_iff_eq, bne_iff_ne, ne_eq] at *); first | omega | exact absurd trivial (by assumption))
  refine wLoop (fun k s => ∃ (j : Nat), j + k = l.length ∧ s.1 0 = .lst false (l.map encClaim) ∧ s.1 3 = .v (.int .i64 (j : Nat)) ∧ (∀ m ∈ l.take j, claimFault m = 0)) (fun k s hI => ?_) (l.length) _ ?_
  · obtain ⟨e, H⟩ := s
    obtain ⟨j, hj, h0, h3, hz⟩ := hI
    simp only at h0 h3 hz
    by_cases hlt : j < l.length
    · obtain ⟨m, hg, hd, hm⟩ := at_drop hlt
      have hg' := map_at (f := encClaim) hg
      have hltI : ((j : Nat) : Int) < (l.length : Int) := by omega
      have w4 : IntKind.wrap .i64 ((j : Nat) + 1 : Int) = ((j + 1 : Nat) : Int) := wrap_succ (by omega)
      by_cases hf : claimFault m = 0
      · repeat' (first | ((first | refine wSeqr (fun xx hx => ?_) | refine wIf (fun xx hx => ?_) | refine wReg (fun xx hx => ?_) | (refine wRet ?_; (try simp only [thenQ, blockQ]); refine ends_by (fun xx hx => ?_))); have hc := trivial; (repeat' (simp only [hc, Nat.reduceBEq, go_sem, Nat.reduceAdd, Nat.reduceMul, Nat.reduceSub, Nat.reduceEqDiff, Nat.reduceLT, Nat.reduceLeDiff, Int.reduceEq, Int.reduceLT, Int.reduceLE, reduceIte, aresults, aresult, hp0, h0, h3, hltI, hg', encClaim, c_sClaimFault, hf, w4, List.length_map] at hx; (try (rw [guardL_if] at hx; split at hx <;> rename_i hc)))); all_goals (subst hx; first | (refine ⟨_, rfl, fun ht => ?_, fun ht => ?_⟩ <;> (try simp only [bbs, beq_iff_eq, bne_iff_ne, ne_eq] at ht)) | (refine ⟨_, rfl, ?_⟩; (try simp only [tupOf])))) | refine wSkip ?_ | (refine wExit ?_; simp only [thenQ, blockQ, reduceIte, Nat.reduceEqDiff]) | refine wSeq ?_ | refine wBlock ?_)
        all_goals try (exfalso; (try simp only [bbs, beq_iff_eq, bne_iff_ne, ne_eq] at *); first | omega | exact absurd trivial (by assumption))
        refine ⟨_, Nat.sub_lt (by omega) Nat.one_pos, j + 1, by omega, by simp only [upd_eq, Nat.reduceEqDiff, if_false, if_true, h0, h3], by simp only [upd_eq, Nat.reduceEqDiff, if_false, if_true, h0, h3], ?_⟩
        exact take_nextC hz hg hf
      · rw [show viewF l = claimFault m by unfold viewF; rw [if_neg hbig, fstC_at hz hg hf, if_neg hf]]
        repeat' (first | ((first | refine wSeqr (fun xx hx => ?_) | refine wIf (fun xx hx => ?_) | refine wReg (fun xx hx => ?_) | (refine wRet ?_; (try simp only [thenQ, blockQ]); refine ends_by (fun xx hx => ?_))); have hc := trivial; (repeat' (simp only [hc, Nat.reduceBEq, go_sem, Nat.reduceAdd, Nat.reduceMul, Nat.reduceSub, Nat.reduceEqDiff, Nat.reduceLT, Nat.reduceLeDiff, Int.reduceEq, Int.reduceLT, Int.reduceLE, reduceIte, aresults, aresult, hp0, h0, h3, hltI, hg', encClaim, c_sClaimFault, hf, w4, List.length_map] at hx; (try (rw [guardL_if] at hx; split at hx <;> rename_i hc)))); all_goals (subst hx; first | (refine ⟨_, rfl, fun ht => ?_, fun ht => ?_⟩ <;> (try simp only [bbs, beq_iff_eq, bne_iff_ne, ne_eq] at ht)) | (refine ⟨_, rfl, ?_⟩; (try simp only [tupOf])))) | refine wSkip ?_ | (refine wExit ?_; simp only [thenQ, blockQ, reduceIte, Nat.reduceEqDiff]) | refine wSeq ?_ | refine wBlock ?_)
        all_goals try (exfalso; (try simp only [bbs, beq_iff_eq, bne_iff_ne, ne_eq] at *); first | omega | exact absurd trivial (by assumption))
        all_goals exact gives_intv rfl
    · have hj' : j = l.length := by omega
      have hltI : ¬ ((j : Nat) : Int) < (l.length : Int) := by omega
      rw [hj', List.take_length] at hz
      have hf := fstC_none hz
      repeat' ((fail_if_success (first | refine wAt 10 ?_)); first | ((first | refine wSeqr (fun xx hx => ?_) | refine wIf (fun xx hx => ?_) | refine wReg (fun xx hx => ?_) | (refine wRet ?_; (try simp only [thenQ, blockQ]); refine ends_by (fun xx hx => ?_))); have hc := trivial; (repeat' (simp only [hc, Nat.reduceBEq, go_sem, Nat.reduceAdd, Nat.reduceMul, Nat.reduceSub, Nat.reduceEqDiff, Nat.reduceLT, Nat.reduceLeDiff, Int.reduceEq, Int.reduceLT, Int.reduceLE, reduceIte, aresults, aresult, hp0, h0, h3, hltI, List.length_map] at hx; (try (rw [guardL_if] at hx; split at hx <;> rename_i hc)))); all_goals (subst hx; first | (refine ⟨_, rfl, fun ht => ?_, fun ht => ?_⟩ <;> (try simp only [bbs, beq_iff_eq, bne_iff_ne, ne_eq] at ht)) | (refine ⟨_, rfl, ?_⟩; (try simp only [tupOf])))) | refine wSkip ?_ | (refine wExit ?_; simp only [thenQ, blockQ, reduceIte, Nat.reduceEqDiff]) | refine wSeq ?_ | refine wBlock ?_)
      all_goals try (exfalso; (try simp only [bbs, beq_iff_eq, bne_iff_ne, ne_eq] at *); first | omega | exact absurd trivial (by assumption))
      refine wLoop (fun k s => ∃ (j : Nat), j + k = l.length - 1 ∧ s.1 0 = .lst false (l.map encClaim) ∧ s.1 5 = .v (.int .i64 ((j + 1 : Nat) : Int)) ∧ (∀ (i : Nat) x y, i < j → l[i]? = some x → l[i + 1]? = some y → x.Node < y.Node)) (fun k s hI => ?_) (l.length - 1) _ ?_
      · obtain ⟨e, H⟩ := s
        obtain ⟨j, hj, h0, h5, hasc⟩ := hI
        simp only at h0 h5 hasc
        by_cases hp : j + 1 < l.length
        · obtain ⟨x, gx, -, -⟩ := at_drop (show j < l.length by omega)
          obtain ⟨y, gy, -, -⟩ := at_drop hp
          have gx' := map_at (f := encClaim) gx
          have gy' := map_at (f := encClaim) gy
          have hpI : ((j + 1 : Nat) : Int) < (l.length : Int) := by omega
          have w5 : IntKind.wrap .i64 (((j + 1 : Nat) : Int) - 1) = ((j : Nat) : Int) := by rw [wrap_i64 (by omega) (by omega)]; omega
          have w6 : IntKind.wrap .i64 (((j + 1 : Nat) : Int) + 1) = ((j + 1 + 1 : Nat) : Int) := wrap_succ (by omega)
          by_cases hxy : x.Node < y.Node
          · have n1 : ¬ y.Node ≤ x.Node := by omega
            repeat' (first | ((first | refine wSeqr (fun xx hx => ?_) | refine wIf (fun xx hx => ?_) | refine wReg (fun xx hx => ?_) | (refine wRet ?_; (try simp only [thenQ, blockQ]); refine ends_by (fun xx hx => ?_))); have hc := trivial; (repeat' (simp only [hc, Nat.reduceBEq, go_sem, Nat.reduceAdd, Nat.reduceMul, Nat.reduceSub, Nat.reduceEqDiff, Nat.reduceLT, Nat.reduceLeDiff, Int.reduceEq, Int.reduceLT, Int.reduceLE, reduceIte, aresults, aresult, hp0, h0, h5, hpI, gx', gy', encClaim, w5, w6, n1, List.length_map] at hx; (try (rw [guardL_if] at hx; split at hx <;> rename_i hc)))); all_goals (subst hx; first | (refine ⟨_, rfl, fun ht => ?_, fun ht => ?_⟩ <;> (try simp only [bbs, beq_iff_eq, bne_iff_ne, ne_eq] at ht)) | (refine ⟨_, rfl, ?_⟩; (try simp only [tupOf])))) | refine wSkip ?_ | (refine wExit ?_; simp only [thenQ, blockQ, reduceIte, Nat.reduceEqDiff]) | refine wSeq ?_ | refine wBlock ?_)
            all_goals try (exfalso; (try simp only [bbs, beq_iff_eq, bne_iff_ne, ne_eq] at *); first | omega | exact absurd trivial (by assumption))
            refine ⟨_, Nat.sub_lt (by omega) Nat.one_pos, j + 1, by omega, by simp only [upd_eq, Nat.reduceEqDiff, if_false, if_true, h0, h5], by simp only [upd_eq, Nat.reduceEqDiff, if_false, if_true, h0, h5], ?_⟩
            intro i a b hi ga gb
            by_cases hij : i = j
            · subst hij; rw [gx] at ga; rw [gy] at gb
              obtain rfl := Option.some.inj ga; obtain rfl := Option.some.inj gb; exact hxy
            · exact hasc i a b (by omega) ga gb
          · have n1 : y.Node ≤ x.Node := by omega
            rw [show viewF l = 1 by unfold viewF; rw [if_neg hbig, if_pos hf, if_neg (fun h => hxy (h j x y gx gy))]]
            repeat' (first | ((first | refine wSeqr (fun xx hx => ?_) | refine wIf (fun xx hx => ?_) | refine wReg (fun xx hx => ?_) | (refine wRet ?_; (try simp only [thenQ, blockQ]); refine ends_by (fun xx hx => ?_))); have hc := trivial; (repeat' (simp only [hc, Nat.reduceBEq, go_sem, Nat.reduceAdd, Nat.reduceMul, Nat.reduceSub, Nat.reduceEqDiff, Nat.reduceLT, Nat.reduceLeDiff, Int.reduceEq, Int.reduceLT, Int.reduceLE, reduceIte, aresults, aresult, hp0, h0, h5, hpI, gx', gy', encClaim, w5, w6, n1, List.length_map] at hx; (try (rw [guardL_if] at hx; split at hx <;> rename_i hc)))); all_goals (subst hx; first | (refine ⟨_, rfl, fun ht => ?_, fun ht => ?_⟩ <;> (try simp only [bbs, beq_iff_eq, bne_iff_ne, ne_eq] at ht)) | (refine ⟨_, rfl, ?_⟩; (try simp only [tupOf])))) | refine wSkip ?_ | (refine wExit ?_; simp only [thenQ, blockQ, reduceIte, Nat.reduceEqDiff]) | refine wSeq ?_ | refine wBlock ?_)
            all_goals try (exfalso; (try simp only [bbs, beq_iff_eq, bne_iff_ne, ne_eq] at *); first | omega | exact absurd trivial (by assumption))
            all_goals exact gives_intv rfl
        · have hpI : ¬ ((j + 1 : Nat) : Int) < (l.length : Int) := by omega
          rw [show viewF l = 0 by unfold viewF; rw [if_neg hbig, if_pos hf, if_pos (show ascC l from fun i x y gx gy => hasc i x y (by have := (List.getElem?_eq_some_iff.1 gy).1; omega) gx gy)]]
          repeat' (first | ((first | refine wSeqr (fun xx hx => ?_) | refine wIf (fun xx hx => ?_) | refine wReg (fun xx hx => ?_) | (refine wRet ?_; (try simp only [thenQ, blockQ]); refine ends_by (fun xx hx => ?_))); have hc := trivial; (repeat' (simp only [hc, Nat.reduceBEq, go_sem, Nat.reduceAdd, Nat.reduceMul, Nat.reduceSub, Nat.reduceEqDiff, Nat.reduceLT, Nat.reduceLeDiff, Int.reduceEq, Int.reduceLT, Int.reduceLE, reduceIte, aresults, aresult, hp0, h0, h5, hpI, List.length_map] at hx; (try (rw [guardL_if] at hx; split at hx <;> rename_i hc)))); all_goals (subst hx; first | (refine ⟨_, rfl, fun ht => ?_, fun ht => ?_⟩ <;> (try simp only [bbs, beq_iff_eq, bne_iff_ne, ne_eq] at ht)) | (refine ⟨_, rfl, ?_⟩; (try simp only [tupOf])))) | refine wSkip ?_ | (refine wExit ?_; simp only [thenQ, blockQ, reduceIte, Nat.reduceEqDiff]) | refine wSeq ?_ | refine wBlock ?_)
          all_goals try (exfalso; (try simp only [bbs, beq_iff_eq, bne_iff_ne, ne_eq] at *); first | omega | exact absurd trivial (by assumption))
          all_goals exact gives_intv rfl
      · 
        refine ⟨0, by omega, by simp only [upd_eq, Nat.reduceEqDiff, if_false, h0], rfl, fun i x y hi => by omega⟩
  · refine ⟨0, by omega, rfl, rfl, ?_⟩
    simp
theorem c_sViewFault (l : List ClaimM) (hl : l.length ≤ 1048576) : ∀ H, call Tryd.prog cfg0 0 24 [.lst false (l.map encClaim)] H = some (.v (.int .i64 (viewF l)), H) :=
  call_fz Tryd.func24 rfl ok_sViewFault rfl (by simp only [fz_cons, fz_nil, go_sem, and_self]) (p_sViewFault l hl)

end
end Go.Proofs.YtepnlhjafgomgaaDoor
