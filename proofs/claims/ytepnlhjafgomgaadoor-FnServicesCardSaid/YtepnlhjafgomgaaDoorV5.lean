/- Contracts: draws of views. -/
import Derived.Test.YtepnlhjafgomgaaDoorV4
namespace Go.Proofs.YtepnlhjafgomgaaDoor
open Go Go.RowKit Go.Proofs.YtepnlhjafgomgaaDoor.Eng
set_option linter.unusedSimpArgs false
set_option linter.unusedVariables false
set_option maxRecDepth 100000
set_option maxHeartbeats 2000000
noncomputable section
theorem flat_set {sz : Nat} : ∀ (rows : List (List AV)) (i : Nat) (r : List AV) (j : Nat) (v : AV), (∀ r ∈ rows, r.length = sz) → rows[i]? = some r → j < sz → rows.flatten.set (i * sz + j) v = (rows.set i (r.set j v)).flatten := by
  intro rows
  induction rows with
  | nil => intro i r j v _ h; simp at h
  | cons y rows ih =>
    intro i r j v hl hg hj
    have hy := hl y (by simp)
    cases i with
    | zero =>
      simp only [List.getElem?_cons_zero, Option.some.injEq] at hg; subst hg
      rw [Nat.zero_mul, Nat.zero_add, List.flatten_cons, List.set_append_left _ _ (by omega)]; rfl
    | succ i =>
      have := ih i r j v (fun x hx => hl x (by simp [hx])) (by simpa using hg) hj
      rw [List.flatten_cons, List.set_append_right _ _ (by rw [hy, Nat.add_mul]; omega), show (i + 1) * sz + j - y.length = i * sz + j by rw [hy, Nat.add_mul]; omega, this]; rfl
theorem claims_set {ms : List ClaimM} {i : Nat} {c d : ClaimM} {j : Nat} {v : AV} (hg : ms[i]? = some c) (hj : j < 4) (he : (encClaim c).set j v = encClaim d) : ((ms.map encClaim).flatten).set (i * 4 + j) v = (((ms.set i d)).map encClaim).flatten := by
  rw [flat_set (sz := 4) (ms.map encClaim) i (encClaim c) j v (fun r hr => by obtain ⟨k, -, rfl⟩ := List.mem_map.1 hr; rfl) (map_at hg) hj, he, List.map_set]
theorem flat_len (ms : List ClaimM) : ((ms.map encClaim).flatten).length = ms.length * 4 := by
  induction ms with
  | nil => rfl
  | cons c r ih => simp only [List.map_cons, List.flatten_cons, List.length_append, ih, List.length_cons]; show 4 + _ = _; omega
def COk (c : ClaimM) : Prop := 0 ≤ c.Node ∧ c.Node ≤ 3 ∧ 0 ≤ c.Inc ∧ c.Inc ≤ 1000000 ∧ 0 ≤ c.Status ∧ c.Status ≤ 2 ∧ 0 ≤ c.Meta ∧ c.Meta ≤ 9999999
/-- A list of claims in an own block. -/
def CL (H : Hp) (x : AV) (ms : List ClaimM) : Prop := RAcc H x 4 ((ms.map encClaim).flatten) ms.length
theorem CL.deep {H : Hp} {x : AV} {ms : List ClaimM} (h : CL H x ms) (n : Nat) : Eng.deep H (n + 2) x = some (.lst false (ms.map encClaim)) :=
  deep_racc (d := n + 1) h rfl (by omega) (fun _ => rfl) (fun k x hx => fzE_Claim n k x hx)
section
variable {code : List Int} {a : Nat} {H : Hp} {b : Nat} {q : Option (AV × Hp)}
theorem ok_8Draw : fnOk Tryd.prog cfg0 31 Tryd.f31 = true := by kernel_rfl
theorem d_8Draw (hco : CodeOk code) (hS : Src H b code a) (ha : a ≤ 800000000) (hq : call Tryd.prog cfg0 0 31 [.ptr b 0] H = q) :
    ∃ (x : AV) (H' : Hp) (ms : List ClaimM), q = some (x, H') ∧ CL H' x ms ∧ ms.length ≤ 4 ∧ (∀ c ∈ ms, COk c) ∧ (∀ p, p < H.g → Off p x) ∧ (∃ a2, a ≤ a2 ∧ a2 ≤ a + 60 ∧ Src H' b code a2) ∧ Fr b H H' := by
  subst hq
  have key : ∃ r, body Tryd.prog cfg0 31 Tryd.f31 [.ptr b 0] H = some r ∧ (∃ (ms : List ClaimM), CL r.2 r.1 ms ∧ ms.length ≤ 4 ∧ (∀ c ∈ ms, COk c) ∧ (∀ p, p < H.g → Off p r.1) ∧ (∃ a2, a ≤ a2 ∧ a2 ≤ a + 60 ∧ Src r.2 b code a2) ∧ Fr b H r.2) := by
    refine body_wp (rs := [.tmp 2]) rfl rfl (R := fun x H' => ∃ (ms : List ClaimM), CL H' x ms ∧ ms.length ≤ 4 ∧ (∀ c ∈ ms, COk c) ∧ (∀ p, p < H.g → Off p x) ∧ (∃ a2, a ≤ a2 ∧ a2 ≤ a + 60 ∧ Src H' b code a2) ∧ Fr b H H') ?_
    have hp0 : ∀ b, cfg0.pol 31 b = 0 := fun b => rfl
    repeat' (first | ((first | refine wSeqr (fun xx hx => ?_) | refine wIf (fun xx hx => ?_) | refine wReg (fun xx hx => ?_) | (refine wRet ?_; (try simp only [thenQ, blockQ]); refine ends_by (fun xx hx => ?_))); have hc := trivial; (repeat' (simp only [hc, Nat.reduceBEq, go_sem, Nat.reduceAdd, Nat.reduceMul, Nat.reduceSub, Nat.reduceEqDiff, Nat.reduceLT, Nat.reduceLeDiff, Int.reduceEq, Int.reduceLT, Int.reduceLE, reduceIte, aresults, aresult, hp0] at hx; (try (rw [guardL_if] at hx; split at hx <;> rename_i hc)))); all_goals (subst hx; first | (refine ⟨_, rfl, fun ht => ?_, fun ht => ?_⟩ <;> (try simp only [bbs, beq_iff_eq, bne_iff_ne, ne_eq] at ht)) | (refine ⟨_, rfl, ?_⟩; (try simp only [tupOf])))) | refine wSkip ?_ | (refine wExit ?_; simp only [thenQ, blockQ, reduceIte, Nat.reduceEqDiff]) | refine wSeq ?_ | refine wBlock ?_)
    refine wLoop (fun k s => ∃ (j : Nat) (x : AV) (ms : List ClaimM), j + k = 4 ∧ s.1 0 = .ptr b 0 ∧ s.1 3 = x ∧ s.1 4 = .v (.int .i64 (j : Nat)) ∧ (CL s.2 x ms ∧ ms.length ≤ j) ∧ (∀ c ∈ ms, COk c) ∧ (∀ p, p < H.g → Off p x) ∧ (∃ a2, a ≤ a2 ∧ a2 ≤ a + 10 * j ∧ Src s.2 b code a2) ∧ (Fr b H s.2)) (fun k s hI => ?_) (4) _ ?_
    · obtain ⟨e, K⟩ := s
      obtain ⟨j, x, ms, hj, h0, h3, h4, hr, hok, hoff, hsrc, hfr⟩ := hI
      simp only at h0 h3 h4 hr hok hoff hsrc hfr
      obtain ⟨hr, hrl⟩ := hr
      obtain ⟨a2, a3, a4, hsrc⟩ := hsrc
      have w4 : IntKind.wrap .i64 ((j : Nat) + 1 : Int) = ((j + 1 : Nat) : Int) := wrap_succ (by omega)
      by_cases hlt : j < 4
      · have hgt : ((j : Nat) : Int) < 4 := by omega
        have hxb : Off b x := hoff b hS.2
        repeat' ((fail_if_success (first | refine wAt 5 ?_)); first | ((first | refine wSeqr (fun xx hx => ?_) | refine wIf (fun xx hx => ?_) | refine wReg (fun xx hx => ?_) | (refine wRet ?_; (try simp only [thenQ, blockQ]); refine ends_by (fun xx hx => ?_))); have hc := trivial; (repeat' (simp only [hc, Nat.reduceBEq, go_sem, Nat.reduceAdd, Nat.reduceMul, Nat.reduceSub, Nat.reduceEqDiff, Nat.reduceLT, Nat.reduceLeDiff, Int.reduceEq, Int.reduceLT, Int.reduceLE, reduceIte, aresults, aresult, hp0, h4, hgt] at hx; (try (rw [guardL_if] at hx; split at hx <;> rename_i hc)))); all_goals (subst hx; first | (refine ⟨_, rfl, fun ht => ?_, fun ht => ?_⟩ <;> (try simp only [bbs, beq_iff_eq, bne_iff_ne, ne_eq] at ht)) | (refine ⟨_, rfl, ?_⟩; (try simp only [tupOf])))) | refine wSkip ?_ | (refine wExit ?_; simp only [thenQ, blockQ, reduceIte, Nat.reduceEqDiff]) | refine wSeq ?_ | refine wBlock ?_)
        all_goals try (exfalso; (try simp only [bbs, beq_iff_eq, bne_iff_ne, ne_eq] at *); first | omega | exact absurd trivial (by assumption))
        (first | refine wSeqr (fun xx hx => ?_) | refine wReg (fun xx hx => ?_)); have hc := trivial; (repeat' (simp only [hc, Nat.reduceBEq, go_sem, Nat.reduceAdd, Nat.reduceMul, Nat.reduceSub, Nat.reduceEqDiff, Nat.reduceLT, Nat.reduceLeDiff, Int.reduceEq, Int.reduceLT, Int.reduceLE, reduceIte, aresults, aresult, hp0, h0] at hx; (try (rw [guardL_if] at hx; split at hx <;> rename_i hc)))); generalize hq : call Tryd.prog cfg0 0 _ _ _ = q at hx
        obtain ⟨v, K1, rfl, S1, F1, G1⟩ := d_Chance hco hsrc (by omega) (by omega) hq
        clear hq
        have hr1 : RAcc K1 x 4 ((ms.map encClaim).flatten) ms.length := RAcc.keep hr F1.1 fun p hp ho => F1.2 p hp (fun e => ho (e ▸ hxb))
        have hf1 := F1.1
        have hfg := hfr.1
        have hc := trivial; (repeat' (simp only [hc, Nat.reduceBEq, go_sem, Nat.reduceAdd, Nat.reduceMul, Nat.reduceSub, Nat.reduceEqDiff, Nat.reduceLT, Nat.reduceLeDiff, Int.reduceEq, Int.reduceLT, Int.reduceLE, reduceIte, aresults, aresult, hp0] at hx; (try (rw [guardL_if] at hx; split at hx <;> rename_i hc)))); all_goals (subst hx; refine ⟨_, rfl, ?_⟩)
        cases v with
        | true =>
          repeat' (first | ((first | refine wSeqr (fun xx hx => ?_) | refine wIf (fun xx hx => ?_) | refine wReg (fun xx hx => ?_) | (refine wRet ?_; (try simp only [thenQ, blockQ]); refine ends_by (fun xx hx => ?_))); have hc := trivial; (repeat' (simp only [hc, Nat.reduceBEq, go_sem, Nat.reduceAdd, Nat.reduceMul, Nat.reduceSub, Nat.reduceEqDiff, Nat.reduceLT, Nat.reduceLeDiff, Int.reduceEq, Int.reduceLT, Int.reduceLE, reduceIte, aresults, aresult, hp0, h4, w4] at hx; (try (rw [guardL_if] at hx; split at hx <;> rename_i hc)))); all_goals (subst hx; first | (refine ⟨_, rfl, fun ht => ?_, fun ht => ?_⟩ <;> (try simp only [bbs, beq_iff_eq, bne_iff_ne, ne_eq] at ht)) | (refine ⟨_, rfl, ?_⟩; (try simp only [tupOf])))) | refine wSkip ?_ | (refine wExit ?_; simp only [thenQ, blockQ, reduceIte, Nat.reduceEqDiff]) | refine wSeq ?_ | refine wBlock ?_)
          all_goals try (exfalso; (try simp only [bbs, beq_iff_eq, bne_iff_ne, ne_eq] at *); first | omega | exact absurd trivial (by assumption))
          refine ⟨_, Nat.sub_lt (by omega) Nat.one_pos, j + 1, x, ms, by omega, by simp only [upd_eq, Nat.reduceEqDiff, if_false, if_true, h0, h3, h4], by simp only [upd_eq, Nat.reduceEqDiff, if_false, if_true, h0, h3, h4], by simp only [upd_eq, Nat.reduceEqDiff, if_false, if_true, h0, h3, h4], ?_⟩
          exact ⟨⟨hr1, by omega⟩, hok, hoff, ⟨_, by omega, by omega, S1⟩, hfr.trans F1⟩
        | false =>
          repeat' ((fail_if_success (first | refine wAt 6 ?_)); first | ((first | refine wSeqr (fun xx hx => ?_) | refine wIf (fun xx hx => ?_) | refine wReg (fun xx hx => ?_) | (refine wRet ?_; (try simp only [thenQ, blockQ]); refine ends_by (fun xx hx => ?_))); have hc := trivial; (repeat' (simp only [hc, Nat.reduceBEq, go_sem, Nat.reduceAdd, Nat.reduceMul, Nat.reduceSub, Nat.reduceEqDiff, Nat.reduceLT, Nat.reduceLeDiff, Int.reduceEq, Int.reduceLT, Int.reduceLE, reduceIte, aresults, aresult, hp0] at hx; (try (rw [guardL_if] at hx; split at hx <;> rename_i hc)))); all_goals (subst hx; first | (refine ⟨_, rfl, fun ht => ?_, fun ht => ?_⟩ <;> (try simp only [bbs, beq_iff_eq, bne_iff_ne, ne_eq] at ht)) | (refine ⟨_, rfl, ?_⟩; (try simp only [tupOf])))) | refine wSkip ?_ | (refine wExit ?_; simp only [thenQ, blockQ, reduceIte, Nat.reduceEqDiff]) | refine wSeq ?_ | refine wBlock ?_)
          all_goals try (exfalso; (try simp only [bbs, beq_iff_eq, bne_iff_ne, ne_eq] at *); first | omega | exact absurd trivial (by assumption))
          (first | refine wSeqr (fun xx hx => ?_) | refine wReg (fun xx hx => ?_)); have hc := trivial; (repeat' (simp only [hc, Nat.reduceBEq, go_sem, Nat.reduceAdd, Nat.reduceMul, Nat.reduceSub, Nat.reduceEqDiff, Nat.reduceLT, Nat.reduceLeDiff, Int.reduceEq, Int.reduceLT, Int.reduceLE, reduceIte, aresults, aresult, hp0, h0] at hx; (try (rw [guardL_if] at hx; split at hx <;> rename_i hc)))); generalize hq : call Tryd.prog cfg0 0 _ _ _ = q at hx
          obtain ⟨c, K2, rfl, c1, S2, F2⟩ := d_Claim hco S1 (by omega) hq
          clear hq
          have hr2 : RAcc K2 x 4 ((ms.map encClaim).flatten) ms.length := RAcc.keep hr1 F2.1 fun p hp ho => F2.2 p hp (fun e => ho (e ▸ hxb))
          have hf2 := F2.1
          have s2 := S2.2
          have hbg : b < H.g := hS.2
          have hc := trivial; (repeat' (simp only [hc, Nat.reduceBEq, go_sem, Nat.reduceAdd, Nat.reduceMul, Nat.reduceSub, Nat.reduceEqDiff, Nat.reduceLT, Nat.reduceLeDiff, Int.reduceEq, Int.reduceLT, Int.reduceLE, reduceIte, aresults, aresult, hp0] at hx; (try (rw [guardL_if] at hx; split at hx <;> rename_i hc)))); all_goals (subst hx; refine ⟨_, rfl, ?_⟩)
          repeat' ((fail_if_success (first | refine wAt 8 ?_)); first | ((first | refine wSeqr (fun xx hx => ?_) | refine wIf (fun xx hx => ?_) | refine wReg (fun xx hx => ?_) | (refine wRet ?_; (try simp only [thenQ, blockQ]); refine ends_by (fun xx hx => ?_))); have hc := trivial; (repeat' (simp only [hc, Nat.reduceBEq, go_sem, Nat.reduceAdd, Nat.reduceMul, Nat.reduceSub, Nat.reduceEqDiff, Nat.reduceLT, Nat.reduceLeDiff, Int.reduceEq, Int.reduceLT, Int.reduceLE, reduceIte, aresults, aresult, hp0, h4] at hx; (try (rw [guardL_if] at hx; split at hx <;> rename_i hc)))); all_goals (subst hx; first | (refine ⟨_, rfl, fun ht => ?_, fun ht => ?_⟩ <;> (try simp only [bbs, beq_iff_eq, bne_iff_ne, ne_eq] at ht)) | (refine ⟨_, rfl, ?_⟩; (try simp only [tupOf])))) | refine wSkip ?_ | (refine wExit ?_; simp only [thenQ, blockQ, reduceIte, Nat.reduceEqDiff]) | refine wSeq ?_ | refine wBlock ?_)
          all_goals try (exfalso; (try simp only [bbs, beq_iff_eq, bne_iff_ne, ne_eq] at *); first | omega | exact absurd trivial (by assumption))
          (first | refine wSeqr (fun xx hx => ?_) | refine wReg (fun xx hx => ?_)); have hc := trivial; (repeat' (simp only [hc, Nat.reduceBEq, go_sem, Nat.reduceAdd, Nat.reduceMul, Nat.reduceSub, Nat.reduceEqDiff, Nat.reduceLT, Nat.reduceLeDiff, Int.reduceEq, Int.reduceLT, Int.reduceLE, reduceIte, aresults, aresult, hp0, h3] at hx; (try (rw [guardL_if] at hx; split at hx <;> rename_i hc)))); generalize hq : aappend Tryd.prog _ _ _ _ = q at hx
          have hr3 : RAcc (((K2.new [.v (.int .i64 0), .v (.int .i64 0), .v (.int .i64 0), .v (.int .i64 0)]).set K2.g (encClaim c)).set K2.g (encClaim ⟨(j : Nat), c.Inc, c.Status, c.Meta⟩)) x 4 ((ms.map encClaim).flatten) ms.length :=
            hr2.ext ⟨by simp only [Hp.set_g, Hp.new_g]; omega, fun p hp => by rw [Hp.set_h, Hp.set_h, Hp.new_h, if_neg (by omega), if_neg (by omega), if_neg (by omega)]⟩
          obtain ⟨x', K3, rfl, hacc, hg2, hk2, ho2⟩ := app_rows hq el24 zero40 by40 int24 (sz := 4) rfl (by omega) hr3 (m := 1) rfl (afirst_one _ _ (encClaim ⟨(j : Nat), c.Inc, c.Status, c.Meta⟩)) rfl (by omega) (by omega)
          clear hq
          simp only [Hp.set_g, Hp.new_g] at hg2 hk2 ho2
          have hc := trivial; (repeat' (simp only [hc, Nat.reduceBEq, go_sem, Nat.reduceAdd, Nat.reduceMul, Nat.reduceSub, Nat.reduceEqDiff, Nat.reduceLT, Nat.reduceLeDiff, Int.reduceEq, Int.reduceLT, Int.reduceLE, reduceIte, aresults, aresult, hp0] at hx; (try (rw [guardL_if] at hx; split at hx <;> rename_i hc)))); all_goals (subst hx; refine ⟨_, rfl, ?_⟩)
          repeat' (first | ((first | refine wSeqr (fun xx hx => ?_) | refine wIf (fun xx hx => ?_) | refine wReg (fun xx hx => ?_) | (refine wRet ?_; (try simp only [thenQ, blockQ]); refine ends_by (fun xx hx => ?_))); have hc := trivial; (repeat' (simp only [hc, Nat.reduceBEq, go_sem, Nat.reduceAdd, Nat.reduceMul, Nat.reduceSub, Nat.reduceEqDiff, Nat.reduceLT, Nat.reduceLeDiff, Int.reduceEq, Int.reduceLT, Int.reduceLE, reduceIte, aresults, aresult, hp0, h4, w4] at hx; (try (rw [guardL_if] at hx; split at hx <;> rename_i hc)))); all_goals (subst hx; first | (refine ⟨_, rfl, fun ht => ?_, fun ht => ?_⟩ <;> (try simp only [bbs, beq_iff_eq, bne_iff_ne, ne_eq] at ht)) | (refine ⟨_, rfl, ?_⟩; (try simp only [tupOf])))) | refine wSkip ?_ | (refine wExit ?_; simp only [thenQ, blockQ, reduceIte, Nat.reduceEqDiff]) | refine wSeq ?_ | refine wBlock ?_)
          all_goals try (exfalso; (try simp only [bbs, beq_iff_eq, bne_iff_ne, ne_eq] at *); first | omega | exact absurd trivial (by assumption))
          refine ⟨_, Nat.sub_lt (by omega) Nat.one_pos, j + 1, x', ms ++ [⟨(j : Nat), c.Inc, c.Status, c.Meta⟩], by omega, by simp only [upd_eq, Nat.reduceEqDiff, if_false, if_true, h0, h3, h4], by simp only [upd_eq, Nat.reduceEqDiff, if_false, if_true, h0, h3, h4], by simp only [upd_eq, Nat.reduceEqDiff, if_false, if_true, h0, h3, h4], ?_⟩
          have hk3 : ∀ p, p < K2.g → Off p x → K3.h p = K2.h p := fun p hp ho => (hk2 p (by omega) ho).trans (by rw [Hp.set_h, Hp.set_h, Hp.new_h, if_neg (by omega), if_neg (by omega), if_neg (by omega)])
          have hgb : b < K3.g := by omega
          have hF3 : Fr b H K3 := ⟨by omega, fun p h1 h2 => (hk3 p (by omega) (hoff p h1)).trans ((F2.2 p (by omega) h2).trans ((F1.2 p (by omega) h2).trans (hfr.2 p h1 h2)))⟩
          refine ⟨⟨?_, by simp; omega⟩, fun d hd => ?_, fun p hp => ho2 p (by omega) (hoff p hp), ⟨_, by omega, by omega, (hk3 b s2 hxb).trans S2.1, hgb⟩, hF3⟩
          · unfold CL
            rw [List.map_append, List.flatten_append, List.length_append]
            simpa using hacc
          · rcases List.mem_append.1 hd with hd | hd
            · exact hok d hd
            · simp only [List.mem_singleton] at hd; subst hd
              exact ⟨by show (0 : Int) ≤ (j : Nat); omega, by show ((j : Nat) : Int) ≤ 3; omega, c1.2.2⟩
      · have hgt : ¬ ((j : Nat) : Int) < 4 := by omega
        repeat' (first | ((first | refine wSeqr (fun xx hx => ?_) | refine wIf (fun xx hx => ?_) | refine wReg (fun xx hx => ?_) | (refine wRet ?_; (try simp only [thenQ, blockQ]); refine ends_by (fun xx hx => ?_))); have hc := trivial; (repeat' (simp only [hc, Nat.reduceBEq, go_sem, Nat.reduceAdd, Nat.reduceMul, Nat.reduceSub, Nat.reduceEqDiff, Nat.reduceLT, Nat.reduceLeDiff, Int.reduceEq, Int.reduceLT, Int.reduceLE, reduceIte, aresults, aresult, hp0, h3, h4, hgt] at hx; (try (rw [guardL_if] at hx; split at hx <;> rename_i hc)))); all_goals (subst hx; first | (refine ⟨_, rfl, fun ht => ?_, fun ht => ?_⟩ <;> (try simp only [bbs, beq_iff_eq, bne_iff_ne, ne_eq] at ht)) | (refine ⟨_, rfl, ?_⟩; (try simp only [tupOf])))) | refine wSkip ?_ | (refine wExit ?_; simp only [thenQ, blockQ, reduceIte, Nat.reduceEqDiff]) | refine wSeq ?_ | refine wBlock ?_)
        all_goals try (exfalso; (try simp only [bbs, beq_iff_eq, bne_iff_ne, ne_eq] at *); first | omega | exact absurd trivial (by assumption))
        exact ⟨ms, hr, by omega, hok, hoff, ⟨a2, a3, by omega, hsrc⟩, hfr⟩
    · exact ⟨0, .lst true [], [], by omega, rfl, rfl, rfl, ⟨RAcc.lst, Nat.le_refl _⟩, fun c hc => by simp at hc, fun p _ => off_lst, ⟨a, by omega, by omega, hS⟩, Fr.refl _ _⟩
  obtain ⟨⟨x, H'⟩, h1, ms, h2, h3, h4, h5, h6, h7⟩ := key
  exact ⟨x, H', ms, by rw [call_raw Tryd.prog cfg0 Tryd.func31 rfl ok_8Draw rfl rfl, h1], h2, h3, h4, h5, h6, h7⟩
theorem CL.keep {H K : Hp} {x : AV} {ms : List ClaimM} {b : Nat} (h : CL H x ms) (F : Fr b H K) (hxb : Off b x) : CL K x ms := RAcc.keep h F.1 fun p hp ho => F.2 p hp (fun e => ho (e ▸ hxb))
theorem CL.add {H : Hp} {x : AV} {ms : List ClaimM} {c : ClaimM} (h : RAcc H x 4 ((ms.map encClaim).flatten ++ encClaim c) (ms.length + 1)) : CL H x (ms ++ [c]) := by
  unfold CL
  rw [List.map_append, List.flatten_append, List.length_append]
  simpa using h
theorem ok_8Bent : fnOk Tryd.prog cfg0 17 Tryd.f17 = true := by kernel_rfl
theorem d_8Bent (hco : CodeOk code) (hS : Src H b code a) (ha : a ≤ 700000000) (hq : call Tryd.prog cfg0 0 17 [.ptr b 0] H = q) :
    ∃ (x : AV) (H' : Hp) (ms : List ClaimM), q = some (x, H') ∧ CL H' x ms ∧ ms.length ≤ 8 ∧ (∀ p, p < H.g → Off p x) ∧ (∃ a2, a ≤ a2 ∧ a2 ≤ a + 80 ∧ Src H' b code a2) ∧ Fr b H H' := by
  subst hq
  have key : ∃ r, body Tryd.prog cfg0 17 Tryd.f17 [.ptr b 0] H = some r ∧ (∃ (ms : List ClaimM), CL r.2 r.1 ms ∧ ms.length ≤ 8 ∧ (∀ p, p < H.g → Off p r.1) ∧ (∃ a2, a ≤ a2 ∧ a2 ≤ a + 80 ∧ Src r.2 b code a2) ∧ Fr b H r.2) := by
    refine body_wp (rs := [.tmp 2]) rfl rfl (R := fun x H' => ∃ (ms : List ClaimM), CL H' x ms ∧ ms.length ≤ 8 ∧ (∀ p, p < H.g → Off p x) ∧ (∃ a2, a ≤ a2 ∧ a2 ≤ a + 80 ∧ Src H' b code a2) ∧ Fr b H H') ?_
    have hp0 : ∀ b, cfg0.pol 17 b = 0 := fun b => rfl
    have hbg : b < H.g := hS.2
    repeat' ((fail_if_success (first | refine wAt 1 ?_)); first | ((first | refine wSeqr (fun xx hx => ?_) | refine wIf (fun xx hx => ?_) | refine wReg (fun xx hx => ?_) | (refine wRet ?_; (try simp only [thenQ, blockQ]); refine ends_by (fun xx hx => ?_))); have hc := trivial; (repeat' (simp only [hc, Nat.reduceBEq, go_sem, Nat.reduceAdd, Nat.reduceMul, Nat.reduceSub, Nat.reduceEqDiff, Nat.reduceLT, Nat.reduceLeDiff, Int.reduceEq, Int.reduceLT, Int.reduceLE, reduceIte, aresults, aresult, hp0] at hx; (try (rw [guardL_if] at hx; split at hx <;> rename_i hc)))); all_goals (subst hx; first | (refine ⟨_, rfl, fun ht => ?_, fun ht => ?_⟩ <;> (try simp only [bbs, beq_iff_eq, bne_iff_ne, ne_eq] at ht)) | (refine ⟨_, rfl, ?_⟩; (try simp only [tupOf])))) | refine wSkip ?_ | (refine wExit ?_; simp only [thenQ, blockQ, reduceIte, Nat.reduceEqDiff]) | refine wSeq ?_ | refine wBlock ?_)
    (first | refine wSeqr (fun xx hx => ?_) | refine wReg (fun xx hx => ?_)); have hc := trivial; (repeat' (simp only [hc, Nat.reduceBEq, go_sem, Nat.reduceAdd, Nat.reduceMul, Nat.reduceSub, Nat.reduceEqDiff, Nat.reduceLT, Nat.reduceLeDiff, Int.reduceEq, Int.reduceLT, Int.reduceLE, reduceIte, aresults, aresult, hp0] at hx; (try (rw [guardL_if] at hx; split at hx <;> rename_i hc)))); generalize hq : call Tryd.prog cfg0 0 _ _ _ = q at hx
    obtain ⟨x, H1, ms, rfl, hr, hlen, hok, hoff, ⟨a1, ha1, ha2, S1⟩, F1⟩ := d_8Draw hco hS (by omega) hq
    clear hq
    have hxb : Off b x := hoff b hbg
    have f1 := F1.1
    have hc := trivial; (repeat' (simp only [hc, Nat.reduceBEq, go_sem, Nat.reduceAdd, Nat.reduceMul, Nat.reduceSub, Nat.reduceEqDiff, Nat.reduceLT, Nat.reduceLeDiff, Int.reduceEq, Int.reduceLT, Int.reduceLE, reduceIte, aresults, aresult, hp0] at hx; (try (rw [guardL_if] at hx; split at hx <;> rename_i hc)))); all_goals (subst hx; refine ⟨_, rfl, ?_⟩)
    repeat' ((fail_if_success (first | refine wAt 2 ?_)); first | ((first | refine wSeqr (fun xx hx => ?_) | refine wIf (fun xx hx => ?_) | refine wReg (fun xx hx => ?_) | (refine wRet ?_; (try simp only [thenQ, blockQ]); refine ends_by (fun xx hx => ?_))); have hc := trivial; (repeat' (simp only [hc, Nat.reduceBEq, go_sem, Nat.reduceAdd, Nat.reduceMul, Nat.reduceSub, Nat.reduceEqDiff, Nat.reduceLT, Nat.reduceLeDiff, Int.reduceEq, Int.reduceLT, Int.reduceLE, reduceIte, aresults, aresult, hp0] at hx; (try (rw [guardL_if] at hx; split at hx <;> rename_i hc)))); all_goals (subst hx; first | (refine ⟨_, rfl, fun ht => ?_, fun ht => ?_⟩ <;> (try simp only [bbs, beq_iff_eq, bne_iff_ne, ne_eq] at ht)) | (refine ⟨_, rfl, ?_⟩; (try simp only [tupOf])))) | refine wSkip ?_ | (refine wExit ?_; simp only [thenQ, blockQ, reduceIte, Nat.reduceEqDiff]) | refine wSeq ?_ | refine wBlock ?_)
    (first | refine wSeqr (fun xx hx => ?_) | refine wReg (fun xx hx => ?_)); have hc := trivial; (repeat' (simp only [hc, Nat.reduceBEq, go_sem, Nat.reduceAdd, Nat.reduceMul, Nat.reduceSub, Nat.reduceEqDiff, Nat.reduceLT, Nat.reduceLeDiff, Int.reduceEq, Int.reduceLT, Int.reduceLE, reduceIte, aresults, aresult, hp0] at hx; (try (rw [guardL_if] at hx; split at hx <;> rename_i hc)))); generalize hq : call Tryd.prog cfg0 0 _ _ _ = q at hx
    obtain ⟨v, H2, rfl, v1, S2, F2, G2⟩ := d_Next hco S1 (by omega) (by omega) hq
    clear hq
    have hr2 := hr.keep F2 hxb
    have f2 := F2.1
    have s2 := S2.2
    have hc := trivial; (repeat' (simp only [hc, Nat.reduceBEq, go_sem, Nat.reduceAdd, Nat.reduceMul, Nat.reduceSub, Nat.reduceEqDiff, Nat.reduceLT, Nat.reduceLeDiff, Int.reduceEq, Int.reduceLT, Int.reduceLE, reduceIte, aresults, aresult, hp0] at hx; (try (rw [guardL_if] at hx; split at hx <;> rename_i hc)))); all_goals (subst hx; refine ⟨_, rfl, ?_⟩)
    by_cases w0 : v = 0
    · subst w0
      repeat' ((fail_if_success (first | refine wAt 4 ?_)); first | ((first | refine wSeqr (fun xx hx => ?_) | refine wIf (fun xx hx => ?_) | refine wReg (fun xx hx => ?_) | (refine wRet ?_; (try simp only [thenQ, blockQ]); refine ends_by (fun xx hx => ?_))); have hc := trivial; (repeat' (simp only [hc, Nat.reduceBEq, go_sem, Nat.reduceAdd, Nat.reduceMul, Nat.reduceSub, Nat.reduceEqDiff, Nat.reduceLT, Nat.reduceLeDiff, Int.reduceEq, Int.reduceLT, Int.reduceLE, reduceIte, aresults, aresult, hp0] at hx; (try (rw [guardL_if] at hx; split at hx <;> rename_i hc)))); all_goals (subst hx; first | (refine ⟨_, rfl, fun ht => ?_, fun ht => ?_⟩ <;> (try simp only [bbs, beq_iff_eq, bne_iff_ne, ne_eq] at ht)) | (refine ⟨_, rfl, ?_⟩; (try simp only [tupOf])))) | refine wSkip ?_ | (refine wExit ?_; simp only [thenQ, blockQ, reduceIte, Nat.reduceEqDiff]) | refine wSeq ?_ | refine wBlock ?_)
      all_goals try (exfalso; (try simp only [bbs, beq_iff_eq, bne_iff_ne, ne_eq] at *); first | omega | exact absurd trivial (by assumption))
      (first | refine wSeqr (fun xx hx => ?_) | refine wReg (fun xx hx => ?_)); have hc := trivial; (repeat' (simp only [hc, Nat.reduceBEq, go_sem, Nat.reduceAdd, Nat.reduceMul, Nat.reduceSub, Nat.reduceEqDiff, Nat.reduceLT, Nat.reduceLeDiff, Int.reduceEq, Int.reduceLT, Int.reduceLE, reduceIte, aresults, aresult, hp0] at hx; (try (rw [guardL_if] at hx; split at hx <;> rename_i hc)))); generalize hq : call Tryd.prog cfg0 0 _ _ _ = q at hx
      obtain ⟨c, H3, rfl, c1, S3, F3⟩ := d_Claim hco S2 (by omega) hq
      clear hq
      have hr3 := hr2.keep F3 hxb
      have f3 := F3.1
      have s3 := S3.2
      have hc := trivial; (repeat' (simp only [hc, Nat.reduceBEq, go_sem, Nat.reduceAdd, Nat.reduceMul, Nat.reduceSub, Nat.reduceEqDiff, Nat.reduceLT, Nat.reduceLeDiff, Int.reduceEq, Int.reduceLT, Int.reduceLE, reduceIte, aresults, aresult, hp0] at hx; (try (rw [guardL_if] at hx; split at hx <;> rename_i hc)))); generalize hq : aappend Tryd.prog _ _ _ _ = q at hx
      obtain ⟨x', K, rfl, hacc, hg2, hk2, ho2⟩ := app_rows hq el24 zero40 by40 int24 (sz := 4) rfl (by omega) hr3 (m := 1) rfl (afirst_one _ _ (encClaim c)) rfl (by omega) (by omega)
      clear hq
      have hc := trivial; (repeat' (simp only [hc, Nat.reduceBEq, go_sem, Nat.reduceAdd, Nat.reduceMul, Nat.reduceSub, Nat.reduceEqDiff, Nat.reduceLT, Nat.reduceLeDiff, Int.reduceEq, Int.reduceLT, Int.reduceLE, reduceIte, aresults, aresult, hp0] at hx; (try (rw [guardL_if] at hx; split at hx <;> rename_i hc)))); all_goals (subst hx; refine ⟨_, rfl, ?_⟩)
      repeat' (first | ((first | refine wSeqr (fun xx hx => ?_) | refine wIf (fun xx hx => ?_) | refine wReg (fun xx hx => ?_) | (refine wRet ?_; (try simp only [thenQ, blockQ]); refine ends_by (fun xx hx => ?_))); have hc := trivial; (repeat' (simp only [hc, Nat.reduceBEq, go_sem, Nat.reduceAdd, Nat.reduceMul, Nat.reduceSub, Nat.reduceEqDiff, Nat.reduceLT, Nat.reduceLeDiff, Int.reduceEq, Int.reduceLT, Int.reduceLE, reduceIte, aresults, aresult, hp0] at hx; (try (rw [guardL_if] at hx; split at hx <;> rename_i hc)))); all_goals (subst hx; first | (refine ⟨_, rfl, fun ht => ?_, fun ht => ?_⟩ <;> (try simp only [bbs, beq_iff_eq, bne_iff_ne, ne_eq] at ht)) | (refine ⟨_, rfl, ?_⟩; (try simp only [tupOf])))) | refine wSkip ?_ | (refine wExit ?_; simp only [thenQ, blockQ, reduceIte, Nat.reduceEqDiff]) | refine wSeq ?_ | refine wBlock ?_)
      all_goals try (exfalso; (try simp only [bbs, beq_iff_eq, bne_iff_ne, ne_eq] at *); first | omega | exact absurd trivial (by assumption))
      exact ⟨ms ++ [c], CL.add hacc, by simp; omega, fun p hp => ho2 p (by omega) (hoff p hp), ⟨_, by omega, by omega, (hk2 b s3 hxb).trans S3.1, by omega⟩, ⟨by omega, fun p h1 h2 => (hk2 p (by omega) (hoff p h1)).trans ((F3.2 p (by omega) h2).trans ((F2.2 p (by omega) h2).trans (F1.2 p h1 h2)))⟩⟩
    by_cases w1 : v = 1
    · subst w1
      repeat' ((fail_if_success (first | refine wAt 6 ?_)); first | ((first | refine wSeqr (fun xx hx => ?_) | refine wIf (fun xx hx => ?_) | refine wReg (fun xx hx => ?_) | (refine wRet ?_; (try simp only [thenQ, blockQ]); refine ends_by (fun xx hx => ?_))); have hc := trivial; (repeat' (simp only [hc, Nat.reduceBEq, go_sem, Nat.reduceAdd, Nat.reduceMul, Nat.reduceSub, Nat.reduceEqDiff, Nat.reduceLT, Nat.reduceLeDiff, Int.reduceEq, Int.reduceLT, Int.reduceLE, reduceIte, aresults, aresult, hp0] at hx; (try (rw [guardL_if] at hx; split at hx <;> rename_i hc)))); all_goals (subst hx; first | (refine ⟨_, rfl, fun ht => ?_, fun ht => ?_⟩ <;> (try simp only [bbs, beq_iff_eq, bne_iff_ne, ne_eq] at ht)) | (refine ⟨_, rfl, ?_⟩; (try simp only [tupOf])))) | refine wSkip ?_ | (refine wExit ?_; simp only [thenQ, blockQ, reduceIte, Nat.reduceEqDiff]) | refine wSeq ?_ | refine wBlock ?_)
      all_goals try (exfalso; (try simp only [bbs, beq_iff_eq, bne_iff_ne, ne_eq] at *); first | omega | exact absurd trivial (by assumption))
      (first | refine wSeqr (fun xx hx => ?_) | refine wReg (fun xx hx => ?_)); have hc := trivial; (repeat' (simp only [hc, Nat.reduceBEq, go_sem, Nat.reduceAdd, Nat.reduceMul, Nat.reduceSub, Nat.reduceEqDiff, Nat.reduceLT, Nat.reduceLeDiff, Int.reduceEq, Int.reduceLT, Int.reduceLE, reduceIte, aresults, aresult, hp0] at hx; (try (rw [guardL_if] at hx; split at hx <;> rename_i hc)))); generalize hq : call Tryd.prog cfg0 0 _ _ _ = q at hx
      obtain ⟨z, H3, rfl, b3, S3, F3, G3⟩ := d_Pick [3, 4] (by simp) hco S2 (by omega) hq
      clear hq
      have hr3 := hr2.keep F3 hxb
      have f3 := F3.1
      have s3 := S3.2
      have hc := trivial; (repeat' (simp only [hc, Nat.reduceBEq, go_sem, Nat.reduceAdd, Nat.reduceMul, Nat.reduceSub, Nat.reduceEqDiff, Nat.reduceLT, Nat.reduceLeDiff, Int.reduceEq, Int.reduceLT, Int.reduceLE, reduceIte, aresults, aresult, hp0] at hx; (try (rw [guardL_if] at hx; split at hx <;> rename_i hc)))); generalize hq : aappend Tryd.prog _ _ _ _ = q at hx
      obtain ⟨x', K, rfl, hacc, hg2, hk2, ho2⟩ := app_rows hq el24 zero40 by40 int24 (sz := 4) rfl (by omega) hr3 (m := 1) rfl (afirst_one _ _ (encClaim ⟨z, 0, 0, 0⟩)) rfl (by omega) (by omega)
      clear hq
      have hc := trivial; (repeat' (simp only [hc, Nat.reduceBEq, go_sem, Nat.reduceAdd, Nat.reduceMul, Nat.reduceSub, Nat.reduceEqDiff, Nat.reduceLT, Nat.reduceLeDiff, Int.reduceEq, Int.reduceLT, Int.reduceLE, reduceIte, aresults, aresult, hp0] at hx; (try (rw [guardL_if] at hx; split at hx <;> rename_i hc)))); all_goals (subst hx; refine ⟨_, rfl, ?_⟩)
      repeat' (first | ((first | refine wSeqr (fun xx hx => ?_) | refine wIf (fun xx hx => ?_) | refine wReg (fun xx hx => ?_) | (refine wRet ?_; (try simp only [thenQ, blockQ]); refine ends_by (fun xx hx => ?_))); have hc := trivial; (repeat' (simp only [hc, Nat.reduceBEq, go_sem, Nat.reduceAdd, Nat.reduceMul, Nat.reduceSub, Nat.reduceEqDiff, Nat.reduceLT, Nat.reduceLeDiff, Int.reduceEq, Int.reduceLT, Int.reduceLE, reduceIte, aresults, aresult, hp0] at hx; (try (rw [guardL_if] at hx; split at hx <;> rename_i hc)))); all_goals (subst hx; first | (refine ⟨_, rfl, fun ht => ?_, fun ht => ?_⟩ <;> (try simp only [bbs, beq_iff_eq, bne_iff_ne, ne_eq] at ht)) | (refine ⟨_, rfl, ?_⟩; (try simp only [tupOf])))) | refine wSkip ?_ | (refine wExit ?_; simp only [thenQ, blockQ, reduceIte, Nat.reduceEqDiff]) | refine wSeq ?_ | refine wBlock ?_)
      all_goals try (exfalso; (try simp only [bbs, beq_iff_eq, bne_iff_ne, ne_eq] at *); first | omega | exact absurd trivial (by assumption))
      exact ⟨ms ++ [⟨z, 0, 0, 0⟩], CL.add hacc, by simp; omega, fun p hp => ho2 p (by omega) (hoff p hp), ⟨_, by omega, by omega, (hk2 b s3 hxb).trans S3.1, by omega⟩, ⟨by omega, fun p h1 h2 => (hk2 p (by omega) (hoff p h1)).trans ((F3.2 p (by omega) h2).trans ((F2.2 p (by omega) h2).trans (F1.2 p h1 h2)))⟩⟩
    by_cases w2 : v = 2
    · subst w2
      repeat' ((fail_if_success (first | refine wAt 8 ?_)); first | ((first | refine wSeqr (fun xx hx => ?_) | refine wIf (fun xx hx => ?_) | refine wReg (fun xx hx => ?_) | (refine wRet ?_; (try simp only [thenQ, blockQ]); refine ends_by (fun xx hx => ?_))); have hc := trivial; (repeat' (simp only [hc, Nat.reduceBEq, go_sem, Nat.reduceAdd, Nat.reduceMul, Nat.reduceSub, Nat.reduceEqDiff, Nat.reduceLT, Nat.reduceLeDiff, Int.reduceEq, Int.reduceLT, Int.reduceLE, reduceIte, aresults, aresult, hp0] at hx; (try (rw [guardL_if] at hx; split at hx <;> rename_i hc)))); all_goals (subst hx; first | (refine ⟨_, rfl, fun ht => ?_, fun ht => ?_⟩ <;> (try simp only [bbs, beq_iff_eq, bne_iff_ne, ne_eq] at ht)) | (refine ⟨_, rfl, ?_⟩; (try simp only [tupOf])))) | refine wSkip ?_ | (refine wExit ?_; simp only [thenQ, blockQ, reduceIte, Nat.reduceEqDiff]) | refine wSeq ?_ | refine wBlock ?_)
      all_goals try (exfalso; (try simp only [bbs, beq_iff_eq, bne_iff_ne, ne_eq] at *); first | omega | exact absurd trivial (by assumption))
      (first | refine wSeqr (fun xx hx => ?_) | refine wReg (fun xx hx => ?_)); have hc := trivial; (repeat' (simp only [hc, Nat.reduceBEq, go_sem, Nat.reduceAdd, Nat.reduceMul, Nat.reduceSub, Nat.reduceEqDiff, Nat.reduceLT, Nat.reduceLeDiff, Int.reduceEq, Int.reduceLT, Int.reduceLE, reduceIte, aresults, aresult, hp0] at hx; (try (rw [guardL_if] at hx; split at hx <;> rename_i hc)))); generalize hq : aappend Tryd.prog _ _ _ _ = q at hx
      have hmm : alen x = some ms.length ∧ afirst H2 4 ms.length x = some ((ms.map encClaim).flatten) := by
        rcases hr2.2 with ⟨h0, e⟩ | ⟨p, hp, rfl, hh⟩
        · have e0 : ms = [] := List.length_eq_zero_iff.1 h0
          subst e0
          rcases e with rfl | rfl <;> exact ⟨rfl, rfl⟩
        · refine ⟨rfl, ?_⟩
          have hfl := flat_len ms
          simp only [afirst, hh, Option.bind_some]
          simp only [Nat.zero_add, hfl, Nat.le_refl, and_self, if_true, List.drop_zero]
          rw [List.take_of_length_le (by omega)]
      obtain ⟨x', K, rfl, hacc, hg2, hk2, ho2⟩ := app_rows hq el24 zero40 by40 int24 (sz := 4) rfl (by omega) hr2 (m := ms.length) hmm.1 hmm.2 (flat_len ms) (by omega) (by omega)
      clear hq
      have hc := trivial; (repeat' (simp only [hc, Nat.reduceBEq, go_sem, Nat.reduceAdd, Nat.reduceMul, Nat.reduceSub, Nat.reduceEqDiff, Nat.reduceLT, Nat.reduceLeDiff, Int.reduceEq, Int.reduceLT, Int.reduceLE, reduceIte, aresults, aresult, hp0] at hx; (try (rw [guardL_if] at hx; split at hx <;> rename_i hc)))); all_goals (subst hx; refine ⟨_, rfl, ?_⟩)
      repeat' (first | ((first | refine wSeqr (fun xx hx => ?_) | refine wIf (fun xx hx => ?_) | refine wReg (fun xx hx => ?_) | (refine wRet ?_; (try simp only [thenQ, blockQ]); refine ends_by (fun xx hx => ?_))); have hc := trivial; (repeat' (simp only [hc, Nat.reduceBEq, go_sem, Nat.reduceAdd, Nat.reduceMul, Nat.reduceSub, Nat.reduceEqDiff, Nat.reduceLT, Nat.reduceLeDiff, Int.reduceEq, Int.reduceLT, Int.reduceLE, reduceIte, aresults, aresult, hp0] at hx; (try (rw [guardL_if] at hx; split at hx <;> rename_i hc)))); all_goals (subst hx; first | (refine ⟨_, rfl, fun ht => ?_, fun ht => ?_⟩ <;> (try simp only [bbs, beq_iff_eq, bne_iff_ne, ne_eq] at ht)) | (refine ⟨_, rfl, ?_⟩; (try simp only [tupOf])))) | refine wSkip ?_ | (refine wExit ?_; simp only [thenQ, blockQ, reduceIte, Nat.reduceEqDiff]) | refine wSeq ?_ | refine wBlock ?_)
      all_goals try (exfalso; (try simp only [bbs, beq_iff_eq, bne_iff_ne, ne_eq] at *); first | omega | exact absurd trivial (by assumption))
      refine ⟨ms ++ ms, ?_, by simp; omega, fun p hp => ho2 p (by omega) (hoff p hp), ⟨_, by omega, by omega, (hk2 b s2 hxb).trans S2.1, by omega⟩, ⟨by omega, fun p h1 h2 => (hk2 p (by omega) (hoff p h1)).trans ((F2.2 p (by omega) h2).trans (F1.2 p h1 h2))⟩⟩
      unfold CL
      rw [List.map_append, List.flatten_append, List.length_append]
      exact hacc
    by_cases w3 : v = 3
    · subst w3
      have hll := hr2.len
      by_cases hm0 : ms.length = 0
      · have hn0 : ¬ 0 < ((ms.length : Nat) : Int) := by omega
        repeat' (first | ((first | refine wSeqr (fun xx hx => ?_) | refine wIf (fun xx hx => ?_) | refine wReg (fun xx hx => ?_) | (refine wRet ?_; (try simp only [thenQ, blockQ]); refine ends_by (fun xx hx => ?_))); have hc := trivial; (repeat' (simp only [hc, Nat.reduceBEq, go_sem, Nat.reduceAdd, Nat.reduceMul, Nat.reduceSub, Nat.reduceEqDiff, Nat.reduceLT, Nat.reduceLeDiff, Int.reduceEq, Int.reduceLT, Int.reduceLE, reduceIte, aresults, aresult, hp0, hll, hn0] at hx; (try (rw [guardL_if] at hx; split at hx <;> rename_i hc)))); all_goals (subst hx; first | (refine ⟨_, rfl, fun ht => ?_, fun ht => ?_⟩ <;> (try simp only [bbs, beq_iff_eq, bne_iff_ne, ne_eq] at ht)) | (refine ⟨_, rfl, ?_⟩; (try simp only [tupOf])))) | refine wSkip ?_ | (refine wExit ?_; simp only [thenQ, blockQ, reduceIte, Nat.reduceEqDiff]) | refine wSeq ?_ | refine wBlock ?_)
        all_goals try (exfalso; (try simp only [bbs, beq_iff_eq, bne_iff_ne, ne_eq] at *); first | omega | exact absurd trivial (by assumption))
        exact ⟨ms, hr2, by omega, hoff, ⟨_, by omega, by omega, S2⟩, F1.trans F2⟩
      · have hn0 : 0 < ((ms.length : Nat) : Int) := by omega
        rcases hr2.2 with ⟨h0, e⟩ | ⟨p, hp, rfl, hh⟩
        · omega
        have hpb : p ≠ b := fun e => hxb 4 0 ms.length (by rw [e])
        repeat' ((fail_if_success (first | refine wAt 11 ?_)); first | ((first | refine wSeqr (fun xx hx => ?_) | refine wIf (fun xx hx => ?_) | refine wReg (fun xx hx => ?_) | (refine wRet ?_; (try simp only [thenQ, blockQ]); refine ends_by (fun xx hx => ?_))); have hc := trivial; (repeat' (simp only [hc, Nat.reduceBEq, go_sem, Nat.reduceAdd, Nat.reduceMul, Nat.reduceSub, Nat.reduceEqDiff, Nat.reduceLT, Nat.reduceLeDiff, Int.reduceEq, Int.reduceLT, Int.reduceLE, reduceIte, aresults, aresult, hp0, hll, hn0] at hx; (try (rw [guardL_if] at hx; split at hx <;> rename_i hc)))); all_goals (subst hx; first | (refine ⟨_, rfl, fun ht => ?_, fun ht => ?_⟩ <;> (try simp only [bbs, beq_iff_eq, bne_iff_ne, ne_eq] at ht)) | (refine ⟨_, rfl, ?_⟩; (try simp only [tupOf])))) | refine wSkip ?_ | (refine wExit ?_; simp only [thenQ, blockQ, reduceIte, Nat.reduceEqDiff]) | refine wSeq ?_ | refine wBlock ?_)
        all_goals try (exfalso; (try simp only [bbs, beq_iff_eq, bne_iff_ne, ne_eq] at *); first | omega | exact absurd trivial (by assumption))
        (first | refine wSeqr (fun xx hx => ?_) | refine wReg (fun xx hx => ?_)); have hc := trivial; (repeat' (simp only [hc, Nat.reduceBEq, go_sem, Nat.reduceAdd, Nat.reduceMul, Nat.reduceSub, Nat.reduceEqDiff, Nat.reduceLT, Nat.reduceLeDiff, Int.reduceEq, Int.reduceLT, Int.reduceLE, reduceIte, aresults, aresult, hp0] at hx; (try (rw [guardL_if] at hx; split at hx <;> rename_i hc)))); generalize hq : call Tryd.prog cfg0 0 _ _ _ = q at hx
        obtain ⟨z, H3, rfl, b3, S3, F3, G3⟩ := d_Pick [3, -1, 2] (by simp) hco S2 (by omega) hq
        clear hq
        have hh3 := (F3.2 p hp hpb).trans hh
        have hm1 : 0 < ms.length := by omega
        obtain ⟨c, hg, -, -⟩ := at_drop hm1
        have hset := claims_set (d := ⟨c.Node, c.Inc, z, c.Meta⟩) (j := 2) (v := .v (.int .i64 z)) hg (by omega) rfl
        have hl2 : 0 + 2 + 1 ≤ ((ms.map encClaim).flatten).length := by rw [flat_len]; omega
        have hcl : CL (H3.set p ((((ms.set 0 ⟨c.Node, c.Inc, z, c.Meta⟩).map encClaim).flatten))) (.sl p 4 0 ms.length) (ms.set 0 ⟨c.Node, c.Inc, z, c.Meta⟩) := by
          refine ⟨flat_len _, Or.inr ⟨p, by simpa only [Hp.set_g] using Nat.lt_of_lt_of_le hp F3.1, by rw [List.length_set], by rw [Hp.set_h, if_pos rfl]⟩⟩
        have hc := trivial; (repeat' (simp only [hc, Nat.reduceBEq, go_sem, Nat.reduceAdd, Nat.reduceMul, Nat.reduceSub, Nat.reduceEqDiff, Nat.reduceLT, Nat.reduceLeDiff, Int.reduceEq, Int.reduceLT, Int.reduceLE, reduceIte, aresults, aresult, hp0, hh3, Option.isSome_some, hm1, hset, hl2] at hx; (try (rw [guardL_if] at hx; split at hx <;> rename_i hc)))); all_goals (subst hx; refine ⟨_, rfl, ?_⟩)
        repeat' (first | ((first | refine wSeqr (fun xx hx => ?_) | refine wIf (fun xx hx => ?_) | refine wReg (fun xx hx => ?_) | (refine wRet ?_; (try simp only [thenQ, blockQ]); refine ends_by (fun xx hx => ?_))); have hc := trivial; (repeat' (simp only [hc, Nat.reduceBEq, go_sem, Nat.reduceAdd, Nat.reduceMul, Nat.reduceSub, Nat.reduceEqDiff, Nat.reduceLT, Nat.reduceLeDiff, Int.reduceEq, Int.reduceLT, Int.reduceLE, reduceIte, aresults, aresult, hp0] at hx; (try (rw [guardL_if] at hx; split at hx <;> rename_i hc)))); all_goals (subst hx; first | (refine ⟨_, rfl, fun ht => ?_, fun ht => ?_⟩ <;> (try simp only [bbs, beq_iff_eq, bne_iff_ne, ne_eq] at ht)) | (refine ⟨_, rfl, ?_⟩; (try simp only [tupOf])))) | refine wSkip ?_ | (refine wExit ?_; simp only [thenQ, blockQ, reduceIte, Nat.reduceEqDiff]) | refine wSeq ?_ | refine wBlock ?_)
        all_goals try (exfalso; (try simp only [bbs, beq_iff_eq, bne_iff_ne, ne_eq] at *); first | omega | exact absurd trivial (by assumption))
        refine ⟨_, hcl, by rw [List.length_set]; omega, hoff, ⟨a1 + 1 + 1, by omega, by omega, ?_, ?_⟩, ?_, ?_⟩
        · rw [Hp.set_h, if_neg (by omega)]; exact S3.1
        · rw [Hp.set_g]; exact S3.2
        · rw [Hp.set_g]; omega
        · intro q h1 h2
          rw [Hp.set_h, if_neg (fun e => hoff q h1 4 0 ms.length (by rw [e]))]
          exact (F3.2 q (by omega) h2).trans ((F2.2 q (by omega) h2).trans (F1.2 q h1 h2))
    · repeat' (first | ((first | refine wSeqr (fun xx hx => ?_) | refine wIf (fun xx hx => ?_) | refine wReg (fun xx hx => ?_) | (refine wRet ?_; (try simp only [thenQ, blockQ]); refine ends_by (fun xx hx => ?_))); have hc := trivial; (repeat' (simp only [hc, Nat.reduceBEq, go_sem, Nat.reduceAdd, Nat.reduceMul, Nat.reduceSub, Nat.reduceEqDiff, Nat.reduceLT, Nat.reduceLeDiff, Int.reduceEq, Int.reduceLT, Int.reduceLE, reduceIte, aresults, aresult, hp0, w0, w1, w2, w3] at hx; (try (rw [guardL_if] at hx; split at hx <;> rename_i hc)))); all_goals (subst hx; first | (refine ⟨_, rfl, fun ht => ?_, fun ht => ?_⟩ <;> (try simp only [bbs, beq_iff_eq, bne_iff_ne, ne_eq] at ht)) | (refine ⟨_, rfl, ?_⟩; (try simp only [tupOf])))) | refine wSkip ?_ | (refine wExit ?_; simp only [thenQ, blockQ, reduceIte, Nat.reduceEqDiff]) | refine wSeq ?_ | refine wBlock ?_)
      all_goals try (exfalso; (try simp only [bbs, beq_iff_eq, bne_iff_ne, ne_eq] at *); first | omega | exact absurd trivial (by assumption))
      exact ⟨ms, hr2, by omega, hoff, ⟨_, by omega, by omega, S2⟩, F1.trans F2⟩
  obtain ⟨⟨x, H'⟩, h1, ms, h2, h3, h4, h5, h6⟩ := key
  exact ⟨x, H', ms, by rw [call_raw Tryd.prog cfg0 Tryd.func17 rfl ok_8Bent rfl rfl, h1], h2, h3, h4, h5, h6⟩
end
end
end Go.Proofs.YtepnlhjafgomgaaDoor
