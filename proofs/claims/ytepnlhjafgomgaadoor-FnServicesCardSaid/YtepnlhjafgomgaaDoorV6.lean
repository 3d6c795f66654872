/- Contracts: draws of views with services. -/
import Derived.Test.YtepnlhjafgomgaaDoorV5
namespace Go.Proofs.YtepnlhjafgomgaaDoor
open Go Go.RowKit Go.Proofs.YtepnlhjafgomgaaDoor.Eng
set_option linter.unusedSimpArgs false
set_option linter.unusedVariables false
set_option maxRecDepth 100000
set_option maxHeartbeats 2000000
noncomputable section
theorem CL.put {H : Hp} {p n i : Nat} {ns : List ClaimM} {d : ClaimM} (h : CL H (.sl p 4 0 n) ns) (hp : p < H.g) : CL (H.set p (((ns.set i d).map encClaim).flatten)) (.sl p 4 0 n) (ns.set i d) := by
  have hn : n = ns.length := by
    rcases h.2 with ⟨-, e⟩ | ⟨q, -, e, -⟩
    · rcases e with e | e <;> cases e
    · cases e; rfl
  refine ⟨flat_len _, Or.inr ⟨p, by simpa only [Hp.set_g] using hp, by rw [List.length_set, hn], by rw [Hp.set_h, if_pos rfl]⟩⟩
def VM (c : ClaimM) : Prop := 0 ≤ c.Meta ∧ c.Meta ≤ 9999999
section
variable {code : List Int} {a : Nat} {H : Hp} {b : Nat} {q : Option (AV × Hp)}
theorem ok_View : fnOk Tryd.prog cfg0 15 Tryd.f15 = true := by kernel_rfl
theorem d_View (hco : CodeOk code) (hS : Src H b code a) (ha : a ≤ 700000000) (hq : call Tryd.prog cfg0 0 15 [.ptr b 0] H = q) :
    ∃ (x : AV) (H' : Hp) (ms : List ClaimM), q = some (x, H') ∧ CL H' x ms ∧ ms.length ≤ 8 ∧ (∀ c ∈ ms, VM c) ∧ (∀ p, p < H.g → Off p x) ∧ (∃ a2, a ≤ a2 ∧ a2 ≤ a + 100 ∧ Src H' b code a2) ∧ Fr b H H' := by
  subst hq
  have key : ∃ r, body Tryd.prog cfg0 15 Tryd.f15 [.ptr b 0] H = some r ∧ (∃ (ms : List ClaimM), CL r.2 r.1 ms ∧ ms.length ≤ 8 ∧ (∀ c ∈ ms, VM c) ∧ (∀ p, p < H.g → Off p r.1) ∧ (∃ a2, a ≤ a2 ∧ a2 ≤ a + 100 ∧ Src r.2 b code a2) ∧ Fr b H r.2) := by
    refine body_wp (rs := [.tmp 2]) rfl rfl (R := fun x H' => ∃ (ms : List ClaimM), CL H' x ms ∧ ms.length ≤ 8 ∧ (∀ c ∈ ms, VM c) ∧ (∀ p, p < H.g → Off p x) ∧ (∃ a2, a ≤ a2 ∧ a2 ≤ a + 100 ∧ Src H' b code a2) ∧ Fr b H H') ?_
    have hp0 : ∀ b, cfg0.pol 15 b = 0 := fun b => rfl
    have hbg : b < H.g := hS.2
    repeat' ((fail_if_success (first | refine wAt 1 ?_)); first | ((first | refine wSeqr (fun xx hx => ?_) | refine wIf (fun xx hx => ?_) | refine wReg (fun xx hx => ?_) | (refine wRet ?_; (try simp only [thenQ, blockQ]); refine ends_by (fun xx hx => ?_))); have hc := trivial; (repeat' (simp only [hc, Nat.reduceBEq, go_sem, Nat.reduceAdd, Nat.reduceMul, Nat.reduceSub, Nat.reduceEqDiff, Nat.reduceLT, Nat.reduceLeDiff, Int.reduceEq, Int.reduceLT, Int.reduceLE, reduceIte, aresults, aresult, hp0] at hx; (try (rw [guardL_if] at hx; split at hx <;> rename_i hc)))); all_goals (subst hx; first | (refine ⟨_, rfl, fun ht => ?_, fun ht => ?_⟩ <;> (try simp only [bbs, beq_iff_eq, bne_iff_ne, ne_eq] at ht)) | (refine ⟨_, rfl, ?_⟩; (try simp only [tupOf])))) | refine wSkip ?_ | (refine wExit ?_; simp only [thenQ, blockQ, reduceIte, Nat.reduceEqDiff]) | refine wSeq ?_ | refine wBlock ?_)
    (first | refine wSeqr (fun xx hx => ?_) | refine wReg (fun xx hx => ?_)); have hc := trivial; (repeat' (simp only [hc, Nat.reduceBEq, go_sem, Nat.reduceAdd, Nat.reduceMul, Nat.reduceSub, Nat.reduceEqDiff, Nat.reduceLT, Nat.reduceLeDiff, Int.reduceEq, Int.reduceLT, Int.reduceLE, reduceIte, aresults, aresult, hp0] at hx; (try (rw [guardL_if] at hx; split at hx <;> rename_i hc)))); generalize hq : call Tryd.prog cfg0 0 _ _ _ = q at hx
    obtain ⟨x, H1, ms, rfl, hr, hlen, hok, hoff, ⟨a1, ha1, ha2, S1⟩, F1⟩ := d_8Draw hco hS (by omega) hq
    clear hq
    have hxb : Off b x := hoff b hbg
    have hll := hr.len
    have vm : ∀ c ∈ ms, VM c := fun c hc => ⟨(hok c hc).2.2.2.2.2.2.1, (hok c hc).2.2.2.2.2.2.2⟩
    have hc := trivial; (repeat' (simp only [hc, Nat.reduceBEq, go_sem, Nat.reduceAdd, Nat.reduceMul, Nat.reduceSub, Nat.reduceEqDiff, Nat.reduceLT, Nat.reduceLeDiff, Int.reduceEq, Int.reduceLT, Int.reduceLE, reduceIte, aresults, aresult, hp0] at hx; (try (rw [guardL_if] at hx; split at hx <;> rename_i hc)))); all_goals (subst hx; refine ⟨_, rfl, ?_⟩)
    repeat' (first | ((first | refine wSeqr (fun xx hx => ?_) | refine wIf (fun xx hx => ?_) | refine wReg (fun xx hx => ?_) | (refine wRet ?_; (try simp only [thenQ, blockQ]); refine ends_by (fun xx hx => ?_))); have hc := trivial; (repeat' (simp only [hc, Nat.reduceBEq, go_sem, Nat.reduceAdd, Nat.reduceMul, Nat.reduceSub, Nat.reduceEqDiff, Nat.reduceLT, Nat.reduceLeDiff, Int.reduceEq, Int.reduceLT, Int.reduceLE, reduceIte, aresults, aresult, hp0, hll] at hx; (try (rw [guardL_if] at hx; split at hx <;> rename_i hc)))); all_goals (subst hx; first | (refine ⟨_, rfl, fun ht => ?_, fun ht => ?_⟩ <;> (try simp only [bbs, beq_iff_eq, bne_iff_ne, ne_eq] at ht)) | (refine ⟨_, rfl, ?_⟩; (try simp only [tupOf])))) | refine wSkip ?_ | (refine wExit ?_; simp only [thenQ, blockQ, reduceIte, Nat.reduceEqDiff]) | refine wSeq ?_ | refine wBlock ?_)
    refine wLoop (fun k s => ∃ (j : Nat) (ns : List ClaimM), j + k = ms.length ∧ s.1 0 = .ptr b 0 ∧ s.1 3 = x ∧ s.1 8 = .v (.int .i64 (ms.length : Nat)) ∧ s.1 9 = .v (.int .i64 (j : Nat)) ∧ (CL s.2 x ns ∧ ns.length = ms.length) ∧ (∀ c ∈ ns, VM c) ∧ (∃ a2, a1 ≤ a2 ∧ a2 ≤ a1 + 3 * j ∧ Src s.2 b code a2) ∧ (Fr b H s.2)) (fun k s hI => ?_) (ms.length) _ ?_
    · clear hr hok
      obtain ⟨e, K⟩ := s
      obtain ⟨j, ns, hj, h0, h3, h8, h9, hr, hok, hsrc, hfr⟩ := hI
      simp only at h0 h3 h8 h9 hr hok hsrc hfr
      obtain ⟨hr, hrl⟩ := hr
      obtain ⟨a2, a3, a4, S2⟩ := hsrc
      have w9 : IntKind.wrap .i64 ((j : Nat) + 1 : Int) = ((j + 1 : Nat) : Int) := wrap_succ (by omega)
      by_cases hlt : j < ms.length
      · have hgt : ((j : Nat) : Int) < (ms.length : Int) := by omega
        rcases hr.2 with ⟨hz, -⟩ | ⟨p, hp, ex, hh⟩
        · omega
        have hpb : p ≠ b := fun e => hxb 4 0 ns.length (by rw [ex, e])
        have hfg := hfr.1
        repeat' ((fail_if_success (first | refine wAt 5 ?_)); first | ((first | refine wSeqr (fun xx hx => ?_) | refine wIf (fun xx hx => ?_) | refine wReg (fun xx hx => ?_) | (refine wRet ?_; (try simp only [thenQ, blockQ]); refine ends_by (fun xx hx => ?_))); have hc := trivial; (repeat' (simp only [hc, Nat.reduceBEq, go_sem, Nat.reduceAdd, Nat.reduceMul, Nat.reduceSub, Nat.reduceEqDiff, Nat.reduceLT, Nat.reduceLeDiff, Int.reduceEq, Int.reduceLT, Int.reduceLE, reduceIte, aresults, aresult, hp0, h8, h9, hgt] at hx; (try (rw [guardL_if] at hx; split at hx <;> rename_i hc)))); all_goals (subst hx; first | (refine ⟨_, rfl, fun ht => ?_, fun ht => ?_⟩ <;> (try simp only [bbs, beq_iff_eq, bne_iff_ne, ne_eq] at ht)) | (refine ⟨_, rfl, ?_⟩; (try simp only [tupOf])))) | refine wSkip ?_ | (refine wExit ?_; simp only [thenQ, blockQ, reduceIte, Nat.reduceEqDiff]) | refine wSeq ?_ | refine wBlock ?_)
        all_goals try (exfalso; (try simp only [bbs, beq_iff_eq, bne_iff_ne, ne_eq] at *); first | omega | exact absurd trivial (by assumption))
        (first | refine wSeqr (fun xx hx => ?_) | refine wReg (fun xx hx => ?_)); have hc := trivial; (repeat' (simp only [hc, Nat.reduceBEq, go_sem, Nat.reduceAdd, Nat.reduceMul, Nat.reduceSub, Nat.reduceEqDiff, Nat.reduceLT, Nat.reduceLeDiff, Int.reduceEq, Int.reduceLT, Int.reduceLE, reduceIte, aresults, aresult, hp0, h0] at hx; (try (rw [guardL_if] at hx; split at hx <;> rename_i hc)))); generalize hq : call Tryd.prog cfg0 0 _ _ _ = q at hx
        obtain ⟨v, K1, rfl, S3, F3, G3⟩ := d_Chance hco S2 (by omega) (by omega) hq
        clear hq
        have hr1 := hr.keep F3 hxb
        have f3 := F3.1
        have hc := trivial; (repeat' (simp only [hc, Nat.reduceBEq, go_sem, Nat.reduceAdd, Nat.reduceMul, Nat.reduceSub, Nat.reduceEqDiff, Nat.reduceLT, Nat.reduceLeDiff, Int.reduceEq, Int.reduceLT, Int.reduceLE, reduceIte, aresults, aresult, hp0] at hx; (try (rw [guardL_if] at hx; split at hx <;> rename_i hc)))); all_goals (subst hx; refine ⟨_, rfl, ?_⟩)
        cases v with
        | true =>
          repeat' (first | ((first | refine wSeqr (fun xx hx => ?_) | refine wIf (fun xx hx => ?_) | refine wReg (fun xx hx => ?_) | (refine wRet ?_; (try simp only [thenQ, blockQ]); refine ends_by (fun xx hx => ?_))); have hc := trivial; (repeat' (simp only [hc, Nat.reduceBEq, go_sem, Nat.reduceAdd, Nat.reduceMul, Nat.reduceSub, Nat.reduceEqDiff, Nat.reduceLT, Nat.reduceLeDiff, Int.reduceEq, Int.reduceLT, Int.reduceLE, reduceIte, aresults, aresult, hp0, h9, w9, Bool.not_true] at hx; (try (rw [guardL_if] at hx; split at hx <;> rename_i hc)))); all_goals (subst hx; first | (refine ⟨_, rfl, fun ht => ?_, fun ht => ?_⟩ <;> (try simp only [bbs, beq_iff_eq, bne_iff_ne, ne_eq] at ht)) | (refine ⟨_, rfl, ?_⟩; (try simp only [tupOf])))) | refine wSkip ?_ | (refine wExit ?_; simp only [thenQ, blockQ, reduceIte, Nat.reduceEqDiff]) | refine wSeq ?_ | refine wBlock ?_)
          all_goals try (exfalso; (try simp only [bbs, beq_iff_eq, bne_iff_ne, ne_eq] at *); first | omega | exact absurd trivial (by assumption))
          refine ⟨_, Nat.sub_lt (by omega) Nat.one_pos, j + 1, ns, by omega, by simp only [upd_eq, Nat.reduceEqDiff, if_false, if_true, h0, h3, h8, h9], by simp only [upd_eq, Nat.reduceEqDiff, if_false, if_true, h0, h3, h8, h9], by simp only [upd_eq, Nat.reduceEqDiff, if_false, if_true, h0, h3, h8, h9], by simp only [upd_eq, Nat.reduceEqDiff, if_false, if_true, h0, h3, h8, h9], ?_⟩
          exact ⟨⟨hr1, hrl⟩, hok, ⟨_, by omega, by omega, S3⟩, hfr.trans F3⟩
        | false =>
          have hh3 := (F3.2 p hp hpb).trans hh
          obtain ⟨c, hg, -, hcm⟩ := at_drop (show j < ns.length by omega)
          have hset := claims_set (d := ⟨c.Node, c.Inc, 0, c.Meta⟩) (j := 2) (v := .v (.int .i64 0)) hg (by omega) rfl
          have hl2 : j * 4 + 2 + 1 ≤ ((ns.map encClaim).flatten).length := by rw [flat_len]; omega
          have hjn : j < ns.length := by omega
          repeat' ((fail_if_success (first | refine wAt 6 ?_)); first | ((first | refine wSeqr (fun xx hx => ?_) | refine wIf (fun xx hx => ?_) | refine wReg (fun xx hx => ?_) | (refine wRet ?_; (try simp only [thenQ, blockQ]); refine ends_by (fun xx hx => ?_))); have hc := trivial; (repeat' (simp only [hc, Nat.reduceBEq, go_sem, Nat.reduceAdd, Nat.reduceMul, Nat.reduceSub, Nat.reduceEqDiff, Nat.reduceLT, Nat.reduceLeDiff, Int.reduceEq, Int.reduceLT, Int.reduceLE, reduceIte, aresults, aresult, hp0, Bool.not_false] at hx; (try (rw [guardL_if] at hx; split at hx <;> rename_i hc)))); all_goals (subst hx; first | (refine ⟨_, rfl, fun ht => ?_, fun ht => ?_⟩ <;> (try simp only [bbs, beq_iff_eq, bne_iff_ne, ne_eq] at ht)) | (refine ⟨_, rfl, ?_⟩; (try simp only [tupOf])))) | refine wSkip ?_ | (refine wExit ?_; simp only [thenQ, blockQ, reduceIte, Nat.reduceEqDiff]) | refine wSeq ?_ | refine wBlock ?_)
          all_goals try (exfalso; (try simp only [bbs, beq_iff_eq, bne_iff_ne, ne_eq] at *); first | omega | exact absurd trivial (by assumption))
          repeat' ((fail_if_success (first | refine wAt 7 ?_)); first | ((first | refine wSeqr (fun xx hx => ?_) | refine wIf (fun xx hx => ?_) | refine wReg (fun xx hx => ?_) | (refine wRet ?_; (try simp only [thenQ, blockQ]); refine ends_by (fun xx hx => ?_))); have hc := trivial; (repeat' (simp only [hc, Nat.reduceBEq, go_sem, Nat.reduceAdd, Nat.reduceMul, Nat.reduceSub, Nat.reduceEqDiff, Nat.reduceLT, Nat.reduceLeDiff, Int.reduceEq, Int.reduceLT, Int.reduceLE, reduceIte, aresults, aresult, hp0, h3, ex, h9, hh3, Option.isSome_some, hjn, hset, hl2, Nat.zero_add] at hx; (try (rw [guardL_if] at hx; split at hx <;> rename_i hc)))); all_goals (subst hx; first | (refine ⟨_, rfl, fun ht => ?_, fun ht => ?_⟩ <;> (try simp only [bbs, beq_iff_eq, bne_iff_ne, ne_eq] at ht)) | (refine ⟨_, rfl, ?_⟩; (try simp only [tupOf])))) | refine wSkip ?_ | (refine wExit ?_; simp only [thenQ, blockQ, reduceIte, Nat.reduceEqDiff]) | refine wSeq ?_ | refine wBlock ?_)
          all_goals try (exfalso; (try simp only [bbs, beq_iff_eq, bne_iff_ne, ne_eq] at *); first | omega | exact absurd trivial (by assumption))
          rw [ex] at hr1
          have hr4 := hr1.put (i := j) (d := ⟨c.Node, c.Inc, 0, c.Meta⟩) (Nat.lt_of_lt_of_le hp f3)
          have S4 : Src (K1.set p (((ns.set j ⟨c.Node, c.Inc, 0, c.Meta⟩).map encClaim).flatten)) b code (a2 + 1) := ⟨by rw [Hp.set_h, if_neg (fun e => hpb e.symm)]; exact S3.1, by rw [Hp.set_g]; exact S3.2⟩
          have hh4 : (K1.set p (((ns.set j ⟨c.Node, c.Inc, 0, c.Meta⟩).map encClaim).flatten)).h p = some (((ns.set j ⟨c.Node, c.Inc, 0, c.Meta⟩).map encClaim).flatten) := by rw [Hp.set_h, if_pos rfl]
          have hg4 : (K1.set p (((ns.set j ⟨c.Node, c.Inc, 0, c.Meta⟩).map encClaim).flatten)).g = K1.g := Hp.set_g ..
          have F4 : ∀ q, q < H.g → q ≠ b → (K1.set p (((ns.set j ⟨c.Node, c.Inc, 0, c.Meta⟩).map encClaim).flatten)).h q = K1.h q := fun q h1 h2 => by
            rw [Hp.set_h, if_neg (fun e => hoff q h1 4 0 ns.length (by rw [ex, e]))]
          have hns : (ns.set j ⟨c.Node, c.Inc, 0, c.Meta⟩).length = ns.length := List.length_set ..
          have hg4' : (ns.set j ⟨c.Node, c.Inc, 0, c.Meta⟩)[j]? = some ⟨c.Node, c.Inc, 0, c.Meta⟩ := by rw [List.getElem?_set_self (by omega)]
          have hok4 : ∀ d ∈ ns.set j ⟨c.Node, c.Inc, 0, c.Meta⟩, VM d := fun d hd => by
            rcases List.mem_or_eq_of_mem_set hd with hd | rfl
            · exact hok d hd
            · exact hok c hcm
          generalize K1.set p (((ns.set j ⟨c.Node, c.Inc, 0, c.Meta⟩).map encClaim).flatten) = K4 at *
          generalize ns.set j ⟨c.Node, c.Inc, 0, c.Meta⟩ = n4 at *
          (first | refine wSeqr (fun xx hx => ?_) | refine wReg (fun xx hx => ?_)); have hc := trivial; (repeat' (simp only [hc, Nat.reduceBEq, go_sem, Nat.reduceAdd, Nat.reduceMul, Nat.reduceSub, Nat.reduceEqDiff, Nat.reduceLT, Nat.reduceLeDiff, Int.reduceEq, Int.reduceLT, Int.reduceLE, reduceIte, aresults, aresult, hp0, h0, h3, h9] at hx; (try (rw [guardL_if] at hx; split at hx <;> rename_i hc)))); generalize hq : call Tryd.prog cfg0 0 _ _ _ = q at hx
          obtain ⟨z1, K5, rfl, b5, S5, F5, G5⟩ := d_Pick [65536, 65536, 0, 786432] (by simp) hco S4 (by omega) hq
          clear hq
          have hr5 := hr4.keep F5 (by rw [ex] at hxb; exact hxb)
          have hh5 := (F5.2 p (by omega) hpb).trans hh4
          have f5 := F5.1
          have g4 : H.g ≤ K4.g := by omega
          have hc := trivial; (repeat' (simp only [hc, Nat.reduceBEq, go_sem, Nat.reduceAdd, Nat.reduceMul, Nat.reduceSub, Nat.reduceEqDiff, Nat.reduceLT, Nat.reduceLeDiff, Int.reduceEq, Int.reduceLT, Int.reduceLE, reduceIte, aresults, aresult, hp0, h0, h3, h9] at hx; (try (rw [guardL_if] at hx; split at hx <;> rename_i hc)))); generalize hq : call Tryd.prog cfg0 0 _ _ _ = q at hx
          obtain ⟨z2, K6, rfl, b6, S6, F6, G6⟩ := d_Pick [80, 443, 65535] (by simp) hco S5 (by omega) hq
          clear hq
          have hr6 := hr5.keep F6 (by rw [ex] at hxb; exact hxb)
          have hh6 := (F6.2 p (by omega) hpb).trans hh5
          have f6 := F6.1
          have hz1 : 0 ≤ z1 ∧ z1 ≤ 786432 := by simp only [List.mem_cons, List.not_mem_nil, or_false] at b5; omega
          have hz2 : 0 ≤ z2 ∧ z2 ≤ 65535 := by simp only [List.mem_cons, List.not_mem_nil, or_false] at b6; omega
          have hw : IntKind.wrap .i64 (z1 + z2) = z1 + z2 := wrap_i64 (by omega) (by omega)
          have hset6 := claims_set (d := ⟨c.Node, c.Inc, 0, z1 + z2⟩) (j := 3) (v := .v (.int .i64 (z1 + z2))) hg4' (by omega) rfl
          have hl6 : j * 4 + 3 + 1 ≤ ((n4.map encClaim).flatten).length := by rw [flat_len]; omega
          have hjn6 : j < n4.length := by omega
          have hc := trivial; (repeat' (simp only [hc, Nat.reduceBEq, go_sem, Nat.reduceAdd, Nat.reduceMul, Nat.reduceSub, Nat.reduceEqDiff, Nat.reduceLT, Nat.reduceLeDiff, Int.reduceEq, Int.reduceLT, Int.reduceLE, reduceIte, aresults, aresult, hp0, h3, ex, h9, hh6, Option.isSome_some, hjn, hset6, hl6, Nat.zero_add, hw] at hx; (try (rw [guardL_if] at hx; split at hx <;> rename_i hc)))); all_goals (subst hx; refine ⟨_, rfl, ?_⟩)
          have hr7 := hr6.put (i := j) (d := ⟨c.Node, c.Inc, 0, z1 + z2⟩) (by omega)
          repeat' (first | ((first | refine wSeqr (fun xx hx => ?_) | refine wIf (fun xx hx => ?_) | refine wReg (fun xx hx => ?_) | (refine wRet ?_; (try simp only [thenQ, blockQ]); refine ends_by (fun xx hx => ?_))); have hc := trivial; (repeat' (simp only [hc, Nat.reduceBEq, go_sem, Nat.reduceAdd, Nat.reduceMul, Nat.reduceSub, Nat.reduceEqDiff, Nat.reduceLT, Nat.reduceLeDiff, Int.reduceEq, Int.reduceLT, Int.reduceLE, reduceIte, aresults, aresult, hp0, h9, w9] at hx; (try (rw [guardL_if] at hx; split at hx <;> rename_i hc)))); all_goals (subst hx; first | (refine ⟨_, rfl, fun ht => ?_, fun ht => ?_⟩ <;> (try simp only [bbs, beq_iff_eq, bne_iff_ne, ne_eq] at ht)) | (refine ⟨_, rfl, ?_⟩; (try simp only [tupOf])))) | refine wSkip ?_ | (refine wExit ?_; simp only [thenQ, blockQ, reduceIte, Nat.reduceEqDiff]) | refine wSeq ?_ | refine wBlock ?_)
          all_goals try (exfalso; (try simp only [bbs, beq_iff_eq, bne_iff_ne, ne_eq] at *); first | omega | exact absurd trivial (by assumption))
          refine ⟨_, Nat.sub_lt (by omega) Nat.one_pos, j + 1, n4.set j ⟨c.Node, c.Inc, 0, z1 + z2⟩, by omega, by simp only [upd_eq, Nat.reduceEqDiff, if_false, if_true, h0, h3, h8, h9], by simp only [upd_eq, Nat.reduceEqDiff, if_false, if_true, h0, h3, h8, h9], by simp only [upd_eq, Nat.reduceEqDiff, if_false, if_true, h0, h3, h8, h9], by simp only [upd_eq, Nat.reduceEqDiff, if_false, if_true, h0, h3, h8, h9], ?_⟩
          refine ⟨⟨by rw [ex]; exact hr7, by rw [List.length_set]; omega⟩, fun d hd => ?_, ⟨a2 + 1 + 1 + 1, by omega, by omega, ?_, ?_⟩, ?_, ?_⟩
          · rcases List.mem_or_eq_of_mem_set hd with hd | rfl
            · exact hok4 d hd
            · exact ⟨by show 0 ≤ z1 + z2; omega, by show z1 + z2 ≤ 9999999; omega⟩
          · rw [Hp.set_h, if_neg (fun e => hpb e.symm)]; exact S6.1
          · rw [Hp.set_g]; exact S6.2
          · rw [Hp.set_g]; omega
          · intro q h1 h2
            rw [Hp.set_h, if_neg (fun e => hoff q h1 4 0 ns.length (by rw [ex, e]))]
            exact (F6.2 q (by omega) h2).trans ((F5.2 q (by omega) h2).trans ((F4 q h1 h2).trans ((F3.2 q (by omega) h2).trans (hfr.2 q h1 h2))))
      · have hgt : ¬ ((j : Nat) : Int) < (ms.length : Int) := by omega
        repeat' (first | ((first | refine wSeqr (fun xx hx => ?_) | refine wIf (fun xx hx => ?_) | refine wReg (fun xx hx => ?_) | (refine wRet ?_; (try simp only [thenQ, blockQ]); refine ends_by (fun xx hx => ?_))); have hc := trivial; (repeat' (simp only [hc, Nat.reduceBEq, go_sem, Nat.reduceAdd, Nat.reduceMul, Nat.reduceSub, Nat.reduceEqDiff, Nat.reduceLT, Nat.reduceLeDiff, Int.reduceEq, Int.reduceLT, Int.reduceLE, reduceIte, aresults, aresult, hp0, h3, h8, h9, hgt] at hx; (try (rw [guardL_if] at hx; split at hx <;> rename_i hc)))); all_goals (subst hx; first | (refine ⟨_, rfl, fun ht => ?_, fun ht => ?_⟩ <;> (try simp only [bbs, beq_iff_eq, bne_iff_ne, ne_eq] at ht)) | (refine ⟨_, rfl, ?_⟩; (try simp only [tupOf])))) | refine wSkip ?_ | (refine wExit ?_; simp only [thenQ, blockQ, reduceIte, Nat.reduceEqDiff]) | refine wSeq ?_ | refine wBlock ?_)
        all_goals try (exfalso; (try simp only [bbs, beq_iff_eq, bne_iff_ne, ne_eq] at *); first | omega | exact absurd trivial (by assumption))
        exact ⟨ns, hr, by omega, hok, hoff, ⟨a2, by omega, by omega, S2⟩, hfr⟩
    · exact ⟨0, ms, by omega, rfl, rfl, rfl, rfl, ⟨hr, rfl⟩, vm, ⟨a1, by omega, by omega, S1⟩, F1⟩
  obtain ⟨⟨x, H'⟩, h1, ms, h2, h3, h4, h5, h6, h7⟩ := key
  exact ⟨x, H', ms, by rw [call_raw Tryd.prog cfg0 Tryd.func15 rfl ok_View rfl rfl, h1], h2, h3, h4, h5, h6, h7⟩
end
end
end Go.Proofs.YtepnlhjafgomgaaDoor
