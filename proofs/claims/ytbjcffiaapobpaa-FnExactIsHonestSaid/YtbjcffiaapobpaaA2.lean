/- IsHonest: the functions that it reaches. -/
import Derived.Test.YtbjcffiaapobpaaB1
namespace Go.Proofs.Ytbjcffiaapobpaa
open Go Go.RowKit Go.Proofs.Ytbjcffiaapobpaa.Eng
set_option linter.unusedSimpArgs false
set_option linter.unusedVariables false
set_option maxRecDepth 100000
noncomputable section
theorem hp0 : ∀ a b, cfg0.pol a b = 0 := fun _ _ => rfl
def kd : List AV → Bool
  | .v (.int _ z) :: _ => decide (5 ≤ z) && decide (z ≤ 7)
  | _ => false
theorem ok37 : fnOk Try.prog cfg0 37 Try.f37 = true := by kernel_rfl
theorem p37 (c : List AV) (q : Nat) (hq : q ≤ 11) (hc : ShC Try.prog (upTo 1048576) q 51 c) : ∀ H, call Try.prog cfg0 0 37 [.agg c] H = some (.v (.bool (kd c)), H) := by
  have hfz := shC_fz q 11 51 c hq hc
  obtain ⟨x0, x1, x2, x3, x4, x5, x6, x7, rfl, -⟩ := iv51 hc
  have key : pure Try.prog cfg0 37 Try.f37 [.agg [.v (.int .i64 x0), .v (.int .i64 x1), .v (.int .i64 x2), .v (.int .i64 x3), bytesL x4, .v (.int .i64 x5), .v (.int .i64 x6), bytesL x7]] = some (.v (.bool (decide (5 ≤ x0) && decide (x0 ≤ 7))), true) := by
    refine pure_wp rfl rfl ?_
    refine wSeqr (fun x hx => ?_); simp only [go_sem, Nat.reduceAdd, Nat.reduceMul, Nat.reduceSub, Nat.reduceEqDiff, Nat.reduceLT, Nat.reduceLeDiff, Int.reduceEq, Int.reduceLT, Int.reduceLE, reduceIte, Nat.add_zero, Nat.zero_add, Nat.mul_one] at hx; subst hx; refine ⟨_, rfl, ?_⟩
    by_cases h5 : x0 = 5
    · subst h5
      refine wSeqr (fun x hx => ?_); simp only [go_sem, Nat.reduceAdd, Nat.reduceMul, Nat.reduceSub, Nat.reduceEqDiff, Nat.reduceLT, Nat.reduceLeDiff, Int.reduceEq, Int.reduceLT, Int.reduceLE, reduceIte, Nat.add_zero, Nat.zero_add, Nat.mul_one, decide_true, Bool.not_true, Bool.not_false] at hx; subst hx; refine ⟨_, rfl, ?_⟩
      refine wRet ?_; (try simp only [thenQ, blockQ]); refine ends_ret rfl ?_
      exact ⟨rfl, rfl⟩
    by_cases h6 : x0 = 6
    · subst h6
      refine wSeqr (fun x hx => ?_); simp only [go_sem, Nat.reduceAdd, Nat.reduceMul, Nat.reduceSub, Nat.reduceEqDiff, Nat.reduceLT, Nat.reduceLeDiff, Int.reduceEq, Int.reduceLT, Int.reduceLE, reduceIte, Nat.add_zero, Nat.zero_add, Nat.mul_one, decide_true, decide_false, Bool.not_true, Bool.not_false] at hx; subst hx; refine ⟨_, rfl, ?_⟩
      refine wRet ?_; (try simp only [thenQ, blockQ]); refine ends_ret rfl ?_
      exact ⟨rfl, rfl⟩
    refine wSeqr (fun x hx => ?_); simp only [go_sem, Nat.reduceAdd, Nat.reduceMul, Nat.reduceSub, Nat.reduceEqDiff, Nat.reduceLT, Nat.reduceLeDiff, Int.reduceEq, Int.reduceLT, Int.reduceLE, reduceIte, Nat.add_zero, Nat.zero_add, Nat.mul_one, h5, h6, decide_true, decide_false, Bool.not_true, Bool.not_false] at hx; subst hx; refine ⟨_, rfl, ?_⟩
    refine wRet ?_; (try simp only [thenQ, blockQ]); refine ends_ret rfl ?_
    refine ends_bool _ ?_
    simp only [tupOf, upd_eq, Nat.reduceEqDiff, if_true]
    congr 2
    by_cases h7 : x0 = 7
    · subst h7; rfl
    · rw [decide_eq_false h7]
      symm
      simp only [Bool.and_eq_false_iff, decide_eq_false_iff_not]; omega
  exact fun H => call_of Try.func37 rfl ok37 rfl (by omega) (by simp only [List.mapM_cons, List.mapM_nil, depthD, (Fz.agg hfz).1 H]; rfl) key (.inl rfl)

theorem ok35 : fnOk Try.prog cfg0 35 Try.f35 = true := by kernel_rfl
theorem p35 (a lo hi : Int) : ∀ H, call Try.prog cfg0 0 35 [.v (.int .i64 a), .v (.int .i64 lo), .v (.int .i64 hi)] H = some (.v (.bool (decide (lo ≤ a) && decide (a ≤ hi))), H) := by
  have key : pure Try.prog cfg0 35 Try.f35 [.v (.int .i64 a), .v (.int .i64 lo), .v (.int .i64 hi)] = some (.v (.bool (decide (lo ≤ a) && decide (a ≤ hi))), true) := by
    refine pure_wp rfl rfl ?_
    refine wSeqr (fun x hx => ?_); simp only [go_sem, Nat.reduceAdd, Nat.reduceMul, Nat.reduceSub, Nat.reduceEqDiff, Nat.reduceLT, Nat.reduceLeDiff, Int.reduceEq, Int.reduceLT, Int.reduceLE, reduceIte, Nat.add_zero, Nat.zero_add, Nat.mul_one] at hx; subst hx; refine ⟨_, rfl, ?_⟩
    by_cases h : lo ≤ a
    · refine wSeqr (fun x hx => ?_); simp only [go_sem, Nat.reduceAdd, Nat.reduceMul, Nat.reduceSub, Nat.reduceEqDiff, Nat.reduceLT, Nat.reduceLeDiff, Int.reduceEq, Int.reduceLT, Int.reduceLE, reduceIte, Nat.add_zero, Nat.zero_add, Nat.mul_one, h, decide_true, decide_false, Bool.not_true, Bool.not_false] at hx; subst hx; refine ⟨_, rfl, ?_⟩
      refine wRet ?_; (try simp only [thenQ, blockQ]); refine ends_ret rfl ?_
      refine ends_bool _ ?_
      simp only [tupOf, upd_eq, Nat.reduceEqDiff, if_true, h, decide_true, Bool.true_and]
    · refine wSeqr (fun x hx => ?_); simp only [go_sem, Nat.reduceAdd, Nat.reduceMul, Nat.reduceSub, Nat.reduceEqDiff, Nat.reduceLT, Nat.reduceLeDiff, Int.reduceEq, Int.reduceLT, Int.reduceLE, reduceIte, Nat.add_zero, Nat.zero_add, Nat.mul_one, h, decide_true, decide_false, Bool.not_true, Bool.not_false] at hx; subst hx; refine ⟨_, rfl, ?_⟩
      refine wRet ?_; (try simp only [thenQ, blockQ]); refine ends_ret rfl ?_
      refine ends_bool _ ?_
      simp only [tupOf, upd_eq, Nat.reduceEqDiff, if_true, h, decide_false, Bool.false_and]
  exact fun H => call_of Try.func35 rfl ok35 rfl (by omega) rfl key (.inl rfl)

theorem ok63 : fnOk Try.prog cfg0 63 Try.f63 = true := by kernel_rfl
/-- The first place where the callee says yes, or -1. -/
theorem p63 (f : Nat) (p : List AV → Bool) (ys : List (List AV)) (q : Nat) (hq : q ≤ 10) (hl : ys.length ≤ 1048576) (hc : ∀ c ∈ ys, ShC Try.prog (upTo 1048576) q 51 c) (hf : ∀ c ∈ ys, ∀ H, call Try.prog cfg0 0 f [.agg c] H = some (.v (.bool (p c)), H)) :
    ∃ i : Int, (0 ≤ i ↔ ys.any p = true) ∧ ∀ H, call Try.prog cfg0 0 63 [.lst false ys, .fn f []] H = some (.v (.int .i64 i), H) := by
  have hz0 : ∀ c ∈ ys, ∀ x ∈ c, Fz 11 x := fun c hc' x hx => shC_fz q 11 51 c (by omega) (hc c hc') x hx
  have hfz : Fz 12 (.lst false ys) := Fz.lst hz0
  have key : ∃ v cl, ((∃ i : Int, v = .v (.int .i64 i) ∧ (0 ≤ i ↔ ys.any p = true)) ∧ cl = true) ∧ pure Try.prog cfg0 63 Try.f63 [.lst false ys, .fn f []] = some (v, cl) := by
    refine pure_ex rfl rfl ?_
    refine wSeqr (fun x hx => ?_); simp only [go_sem, Nat.reduceAdd, Nat.reduceMul, Nat.reduceSub, Nat.reduceEqDiff, Nat.reduceLT, Nat.reduceLeDiff, Int.reduceEq, Int.reduceLT, Int.reduceLE, reduceIte, Nat.add_zero, Nat.zero_add, Nat.mul_one] at hx; subst hx; refine ⟨_, rfl, ?_⟩
    refine wSeq (wSeqr ?_); refine (fun x hx => ?_); simp only [go_sem, Nat.reduceAdd, Nat.reduceMul, Nat.reduceSub, Nat.reduceEqDiff, Nat.reduceLT, Nat.reduceLeDiff, Int.reduceEq, Int.reduceLT, Int.reduceLE, reduceIte, Nat.add_zero, Nat.zero_add, Nat.mul_one] at hx; subst hx; refine ⟨_, rfl, ?_⟩
    refine wBlock (wLoop (fun k s => ∃ j, j + k = ys.length ∧ s.1 0 = .lst false ys ∧ s.1 1 = .fn f [] ∧ s.1 7 = .v (.int .i64 ys.length) ∧ s.1 8 = .v (.int .i64 (j : Nat)) ∧ ∀ c ∈ ys.take j, p c = false) (fun k s hI => ?_) ys.length _ ?_)
    · obtain ⟨e, H⟩ := s
      obtain ⟨j, hj, h0, h1, h7, h8, hn⟩ := hI
      simp only at h0 h1 h7 h8
      refine wSeqr (fun x hx => ?_); simp only [go_sem, Nat.reduceAdd, Nat.reduceMul, Nat.reduceSub, Nat.reduceEqDiff, Nat.reduceLT, Nat.reduceLeDiff, Int.reduceEq, Int.reduceLT, Int.reduceLE, reduceIte, Nat.add_zero, Nat.zero_add, Nat.mul_one, h7, h8] at hx; subst hx; refine ⟨_, rfl, ?_⟩
      refine wSeq (wIf ?_); refine (fun y hy => ?_); simp only [go_sem, Nat.reduceAdd, Nat.reduceMul, Nat.reduceSub, Nat.reduceEqDiff, Nat.reduceLT, Nat.reduceLeDiff, Int.reduceEq, Int.reduceLT, Int.reduceLE, reduceIte, Nat.add_zero, Nat.zero_add, Nat.mul_one] at hy; subst hy; refine ⟨_, rfl, fun ht => ?_, fun hf => ?_⟩
      · simp only [decide_eq_true_eq] at ht
        have hla : j < ys.length := by omega
        obtain ⟨c, hg⟩ : ∃ c, ys[j]? = some c := ⟨ys[j], by simp [hla]⟩
        have hcm := List.mem_of_getElem? hg
        have hcl := len51 (hc c hcm)
        have htk : c.take 8 = c := List.take_of_length_le (by omega)
        have hcall := hf c hcm
        refine wSkip (wSeq (wBlock (wSeqr ?_))); refine (fun x hx => ?_); simp only [go_sem, Nat.reduceAdd, Nat.reduceMul, Nat.reduceSub, Nat.reduceEqDiff, Nat.reduceLT, Nat.reduceLeDiff, Int.reduceEq, Int.reduceLT, Int.reduceLE, reduceIte, Nat.add_zero, Nat.zero_add, Nat.mul_one, h8] at hx; subst hx; refine ⟨_, rfl, ?_⟩
        refine wSeqr (fun x hx => ?_); simp only [go_sem, Nat.reduceAdd, Nat.reduceMul, Nat.reduceSub, Nat.reduceEqDiff, Nat.reduceLT, Nat.reduceLeDiff, Int.reduceEq, Int.reduceLT, Int.reduceLE, reduceIte, Nat.add_zero, Nat.zero_add, Nat.mul_one, h0, h1, hg, hcl, htk, hp0, hcall] at hx; subst hx; refine ⟨_, rfl, ?_⟩
        refine wIf (fun y hy => ?_); simp only [go_sem, Nat.reduceAdd, Nat.reduceMul, Nat.reduceSub, Nat.reduceEqDiff, Nat.reduceLT, Nat.reduceLeDiff, Int.reduceEq, Int.reduceLT, Int.reduceLE, reduceIte, Nat.add_zero, Nat.zero_add, Nat.mul_one] at hy; subst hy; refine ⟨_, rfl, fun ht => ?_, fun hf => ?_⟩
        · refine wSeqr (fun x hx => ?_); simp only [go_sem, Nat.reduceAdd, Nat.reduceMul, Nat.reduceSub, Nat.reduceEqDiff, Nat.reduceLT, Nat.reduceLeDiff, Int.reduceEq, Int.reduceLT, Int.reduceLE, reduceIte, Nat.add_zero, Nat.zero_add, Nat.mul_one] at hx; subst hx; refine ⟨_, rfl, ?_⟩
          refine wRet ?_; (try simp only [thenQ, blockQ]); refine ends_ret rfl ?_
          exact ⟨_, _, ⟨⟨j, rfl, ⟨fun _ => List.any_eq_true.2 ⟨c, hcm, ht⟩, fun _ => by omega⟩⟩, rfl⟩, rfl, rfl⟩
        · refine wSkip ?_
          refine wReg (fun x hx => ?_); simp only [go_sem, Nat.reduceAdd, Nat.reduceMul, Nat.reduceSub, Nat.reduceEqDiff, Nat.reduceLT, Nat.reduceLeDiff, Int.reduceEq, Int.reduceLT, Int.reduceLE, reduceIte, Nat.add_zero, Nat.zero_add, Nat.mul_one, h8, wrap_succ (show j < 9223372036854775807 by omega)] at hx; subst hx; refine ⟨_, rfl, ?_⟩
          refine ⟨k - 1, by omega, j + 1, by omega, ?_⟩
          refine ⟨by simp only [upd_eq, Nat.reduceEqDiff, if_false, h0], by simp only [upd_eq, Nat.reduceEqDiff, if_false, h1], by simp only [upd_eq, Nat.reduceEqDiff, if_false, h7], by simp only [upd_eq, Nat.reduceEqDiff, if_true], fun d hd => ?_⟩
          rw [List.take_succ_eq_append_getElem hla] at hd
          rcases List.mem_append.1 hd with hd | hd
          · exact hn d hd
          · rw [List.getElem?_eq_getElem hla] at hg
            simp only [Option.some.injEq] at hg
            simp only [List.mem_singleton] at hd
            rw [hd, hg]; exact hf
      · simp only [decide_eq_false_iff_not] at hf
        rw [List.take_of_length_le (by omega)] at hn
        refine wExit ?_; simp only [thenQ, blockQ, reduceIte, Nat.reduceEqDiff]
        refine wSeqr (fun x hx => ?_); simp only [go_sem, Nat.reduceAdd, Nat.reduceMul, Nat.reduceSub, Nat.reduceEqDiff, Nat.reduceLT, Nat.reduceLeDiff, Int.reduceEq, Int.reduceLT, Int.reduceLE, reduceIte, Nat.add_zero, Nat.zero_add, Nat.mul_one] at hx; subst hx; refine ⟨_, rfl, ?_⟩
        refine wRet ?_; (try simp only [thenQ, blockQ]); refine ends_ret rfl ?_
        refine ⟨_, _, ⟨⟨-1, rfl, ⟨fun h => by omega, fun h => ?_⟩⟩, rfl⟩, rfl, rfl⟩
        obtain ⟨c, h1, h2⟩ := List.any_eq_true.1 h
        rw [hn c h1] at h2; simp at h2
    · exact ⟨0, by omega, rfl, rfl, rfl, rfl, fun c h => by simp at h⟩
  obtain ⟨v, cl, ⟨⟨i, rfl, hi⟩, rfl⟩, hp⟩ := key
  exact ⟨i, hi, fun H => call_of Try.func63 rfl ok63 rfl (by omega) (mapM_two (hfz.1 H) rfl) hp (.inl rfl)⟩

theorem ok36 : fnOk Try.prog cfg0 36 Try.f36 = true := by kernel_rfl
theorem p36 (f : Nat) (p : List AV → Bool) (ys : List (List AV)) (q : Nat) (hq : q ≤ 10) (hl : ys.length ≤ 1048576) (hc : ∀ c ∈ ys, ShC Try.prog (upTo 1048576) q 51 c) (hf : ∀ c ∈ ys, ∀ H, call Try.prog cfg0 0 f [.agg c] H = some (.v (.bool (p c)), H)) :
    ∀ H, call Try.prog cfg0 0 36 [.lst false ys, .fn f []] H = some (.v (.bool (ys.any p)), H) := by
  have hfz : Fz 12 (.lst false ys) := Fz.lst fun c hc' x hx => shC_fz q 11 51 c (by omega) (hc c hc') x hx
  obtain ⟨i, hi, h63⟩ := p63 f p ys q hq hl hc hf
  have key : pure Try.prog cfg0 36 Try.f36 [.lst false ys, .fn f []] = some (.v (.bool (ys.any p)), true) := by
    refine pure_wp rfl rfl ?_
    refine wSeqr (fun x hx => ?_); simp only [go_sem, Nat.reduceAdd, Nat.reduceMul, Nat.reduceSub, Nat.reduceEqDiff, Nat.reduceLT, Nat.reduceLeDiff, Int.reduceEq, Int.reduceLT, Int.reduceLE, reduceIte, Nat.add_zero, Nat.zero_add, Nat.mul_one] at hx; subst hx; refine ⟨_, rfl, ?_⟩
    refine wSeqr (fun x hx => ?_); simp only [go_sem, Nat.reduceAdd, Nat.reduceMul, Nat.reduceSub, Nat.reduceEqDiff, Nat.reduceLT, Nat.reduceLeDiff, Int.reduceEq, Int.reduceLT, Int.reduceLE, reduceIte, Nat.add_zero, Nat.zero_add, Nat.mul_one, hp0, h63] at hx; subst hx; refine ⟨_, rfl, ?_⟩
    refine wRet ?_; (try simp only [thenQ, blockQ]); refine ends_ret rfl ?_
    refine ends_bool _ ?_
    simp only [tupOf, upd_eq, Nat.reduceEqDiff, if_true]
    congr 2
    cases h : ys.any p with
    | true => exact decide_eq_true (hi.2 h)
    | false => exact decide_eq_false fun h' => by rw [hi.1 h'] at h; simp at h
  exact fun H => call_of Try.func36 rfl ok36 rfl (by omega) (mapM_two (hfz.1 H) rfl) key (.inl rfl)

theorem ok16 : fnOk Try.prog cfg0 16 Try.f16 = true := by kernel_rfl
theorem p16 (ys : List (List AV)) (q : Nat) (hq : q ≤ 10) (hl : ys.length ≤ 1048576) (hc : ∀ c ∈ ys, ShC Try.prog (upTo 1048576) q 51 c) : ∀ H, call Try.prog cfg0 0 16 [.lst false ys] H = some (.v (.bool (!(ys.any kd))), H) := by
  have hfz : Fz 12 (.lst false ys) := Fz.lst fun c hc' x hx => shC_fz q 11 51 c (by omega) (hc c hc') x hx
  have h36 := p36 37 kd ys q hq hl hc fun c hc' => p37 c q (by omega) (hc c hc')
  have key : pure Try.prog cfg0 16 Try.f16 [.lst false ys] = some (.v (.bool (!(ys.any kd))), true) := by
    refine pure_wp rfl rfl ?_
    refine wSeqr (fun x hx => ?_); simp only [go_sem, Nat.reduceAdd, Nat.reduceMul, Nat.reduceSub, Nat.reduceEqDiff, Nat.reduceLT, Nat.reduceLeDiff, Int.reduceEq, Int.reduceLT, Int.reduceLE, reduceIte, Nat.add_zero, Nat.zero_add, Nat.mul_one] at hx; subst hx; refine ⟨_, rfl, ?_⟩
    refine wSeqr (fun x hx => ?_); simp only [go_sem, Nat.reduceAdd, Nat.reduceMul, Nat.reduceSub, Nat.reduceEqDiff, Nat.reduceLT, Nat.reduceLeDiff, Int.reduceEq, Int.reduceLT, Int.reduceLE, reduceIte, Nat.add_zero, Nat.zero_add, Nat.mul_one, hp0, h36] at hx; subst hx; refine ⟨_, rfl, ?_⟩
    refine wRet ?_; (try simp only [thenQ, blockQ]); refine ends_ret rfl ?_
    exact ⟨rfl, rfl⟩
  exact fun H => call_of Try.func16 rfl ok16 rfl (by omega) (by simp only [List.mapM_cons, List.mapM_nil, depthD, hfz.1 H]; rfl) key (.inl rfl)

theorem ok14 : fnOk Try.prog cfg0 14 Try.f14 = true := by kernel_rfl
theorem p14 (ys : List (List AV)) (q : Nat) (hq : q ≤ 10) (hl : ys.length ≤ 1048576) (hc : ∀ c ∈ ys, ShC Try.prog (upTo 1048576) q 51 c) : ∀ H, call Try.prog cfg0 0 14 [.lst false ys] H = some (.v (.bool (!(ys.any kd))), H) := by
  have hfz : Fz 12 (.lst false ys) := Fz.lst fun c hc' x hx => shC_fz q 11 51 c (by omega) (hc c hc') x hx
  have key : pure Try.prog cfg0 14 Try.f14 [.lst false ys] = some (.v (.bool (!(ys.any kd))), true) := by
    refine pure_wp rfl rfl ?_
    refine wSeqr (fun x hx => ?_); simp only [go_sem, Nat.reduceAdd, Nat.reduceMul, Nat.reduceSub, Nat.reduceEqDiff, Nat.reduceLT, Nat.reduceLeDiff, Int.reduceEq, Int.reduceLT, Int.reduceLE, reduceIte, Nat.add_zero, Nat.zero_add, Nat.mul_one] at hx; subst hx; refine ⟨_, rfl, ?_⟩
    refine wSeq (wSeqr ?_); refine (fun x hx => ?_); simp only [go_sem, Nat.reduceAdd, Nat.reduceMul, Nat.reduceSub, Nat.reduceEqDiff, Nat.reduceLT, Nat.reduceLeDiff, Int.reduceEq, Int.reduceLT, Int.reduceLE, reduceIte, Nat.add_zero, Nat.zero_add, Nat.mul_one] at hx; subst hx; refine ⟨_, rfl, ?_⟩
    refine wBlock (wLoop (fun k s => ∃ j, j + k = ys.length ∧ s.1 0 = .lst false ys ∧ s.1 3 = .v (.int .i64 (j : Nat)) ∧ ∀ c ∈ ys.take j, kd c = false) (fun k s hI => ?_) ys.length _ ?_)
    · obtain ⟨e, H⟩ := s
      obtain ⟨j, hj, h0, h3, hn⟩ := hI
      simp only at h0 h3
      refine wSeq (wSeqr ?_); refine (fun x hx => ?_); simp only [go_sem, Nat.reduceAdd, Nat.reduceMul, Nat.reduceSub, Nat.reduceEqDiff, Nat.reduceLT, Nat.reduceLeDiff, Int.reduceEq, Int.reduceLT, Int.reduceLE, reduceIte, Nat.add_zero, Nat.zero_add, Nat.mul_one, h0, h3] at hx; subst hx; refine ⟨_, rfl, ?_⟩
      refine wIf (fun y hy => ?_); simp only [go_sem, Nat.reduceAdd, Nat.reduceMul, Nat.reduceSub, Nat.reduceEqDiff, Nat.reduceLT, Nat.reduceLeDiff, Int.reduceEq, Int.reduceLT, Int.reduceLE, reduceIte, Nat.add_zero, Nat.zero_add, Nat.mul_one] at hy; subst hy; refine ⟨_, rfl, fun ht => ?_, fun hf => ?_⟩
      · simp only [decide_eq_true_eq] at ht
        have hla : j < ys.length := by omega
        obtain ⟨c, hg⟩ : ∃ c, ys[j]? = some c := ⟨ys[j], by simp [hla]⟩
        have hcm := List.mem_of_getElem? hg
        have hcm2 := hcm
        obtain ⟨x0, x1, x2, x3, x4, x5, x6, x7, rfl, -⟩ := iv51 (hc c hcm)
        have h35 := p35 x0 5 7
        have hkd : ys.any kd = true ∨ kd (AV.v (Value.int IntKind.i64 x0) :: [AV.v (Value.int IntKind.i64 x1), AV.v (Value.int IntKind.i64 x2), AV.v (Value.int IntKind.i64 x3), bytesL x4, AV.v (Value.int IntKind.i64 x5), AV.v (Value.int IntKind.i64 x6), bytesL x7]) = false := by
          cases h : kd (AV.v (Value.int IntKind.i64 x0) :: [AV.v (Value.int IntKind.i64 x1), AV.v (Value.int IntKind.i64 x2), AV.v (Value.int IntKind.i64 x3), bytesL x4, AV.v (Value.int IntKind.i64 x5), AV.v (Value.int IntKind.i64 x6), bytesL x7]) with
          | true => exact .inl (List.any_eq_true.2 ⟨_, hcm, h⟩)
          | false => exact .inr rfl
        refine wSkip (wSeq (wBlock (wSeqr ?_))); refine (fun x hx => ?_); simp only [go_sem, Nat.reduceAdd, Nat.reduceMul, Nat.reduceSub, Nat.reduceEqDiff, Nat.reduceLT, Nat.reduceLeDiff, Int.reduceEq, Int.reduceLT, Int.reduceLE, reduceIte, Nat.add_zero, Nat.zero_add, Nat.mul_one, h0, h3, hg, hp0, h35] at hx; subst hx; refine ⟨_, rfl, ?_⟩
        refine wIf (fun y hy => ?_); simp only [go_sem, Nat.reduceAdd, Nat.reduceMul, Nat.reduceSub, Nat.reduceEqDiff, Nat.reduceLT, Nat.reduceLeDiff, Int.reduceEq, Int.reduceLT, Int.reduceLE, reduceIte, Nat.add_zero, Nat.zero_add, Nat.mul_one] at hy; subst hy; refine ⟨_, rfl, fun ht => ?_, fun hf => ?_⟩
        · refine wSeqr (fun x hx => ?_); simp only [go_sem, Nat.reduceAdd, Nat.reduceMul, Nat.reduceSub, Nat.reduceEqDiff, Nat.reduceLT, Nat.reduceLeDiff, Int.reduceEq, Int.reduceLT, Int.reduceLE, reduceIte, Nat.add_zero, Nat.zero_add, Nat.mul_one] at hx; subst hx; refine ⟨_, rfl, ?_⟩
          refine wRet ?_; (try simp only [thenQ, blockQ]); refine ends_ret rfl ?_
          refine ends_bool _ ?_
          have : ys.any kd = true := List.any_eq_true.2 ⟨_, hcm, ht⟩
          rw [this]; rfl
        · refine wSkip ?_
          refine wReg (fun x hx => ?_); simp only [go_sem, Nat.reduceAdd, Nat.reduceMul, Nat.reduceSub, Nat.reduceEqDiff, Nat.reduceLT, Nat.reduceLeDiff, Int.reduceEq, Int.reduceLT, Int.reduceLE, reduceIte, Nat.add_zero, Nat.zero_add, Nat.mul_one, h3, wrap_succ (show j < 9223372036854775807 by omega)] at hx; subst hx; refine ⟨_, rfl, ?_⟩
          refine ⟨k - 1, by omega, j + 1, by omega, ?_⟩
          refine ⟨by simp only [upd_eq, Nat.reduceEqDiff, if_false, h0], by simp only [upd_eq, Nat.reduceEqDiff, if_true], fun d hd => ?_⟩
          rw [List.take_succ_eq_append_getElem hla] at hd
          rcases List.mem_append.1 hd with hd | hd
          · exact hn d hd
          · rw [List.getElem?_eq_getElem hla] at hg
            simp only [Option.some.injEq] at hg
            simp only [List.mem_singleton] at hd
            rw [hd, hg]; exact hf
      · simp only [decide_eq_false_iff_not] at hf
        rw [List.take_of_length_le (by omega)] at hn
        refine wExit ?_; simp only [thenQ, blockQ, reduceIte, Nat.reduceEqDiff]
        refine wSeqr (fun x hx => ?_); simp only [go_sem, Nat.reduceAdd, Nat.reduceMul, Nat.reduceSub, Nat.reduceEqDiff, Nat.reduceLT, Nat.reduceLeDiff, Int.reduceEq, Int.reduceLT, Int.reduceLE, reduceIte, Nat.add_zero, Nat.zero_add, Nat.mul_one] at hx; subst hx; refine ⟨_, rfl, ?_⟩
        refine wRet ?_; (try simp only [thenQ, blockQ]); refine ends_ret rfl ?_
        refine ends_bool _ ?_
        have : ys.any kd = false := by
          rw [List.any_eq_false]; intro c h; rw [hn c h]; simp
        rw [this]; rfl
    · exact ⟨0, by omega, rfl, rfl, fun c h => by simp at h⟩
  exact fun H => call_of Try.func14 rfl ok14 rfl (by omega) (by simp only [List.mapM_cons, List.mapM_nil, depthD, hfz.1 H]; rfl) key (.inl rfl)

theorem ok4 : fnOk Try.prog cfg0 4 Try.f4 = true := by kernel_rfl
theorem p4 (xs : List AV) (h : ArgsC Try.prog reach 5 [30] xs) : pure Try.prog cfg0 4 Try.f4 xs = some (.v (.bool true), true) := by
  obtain ⟨a, r, rfl, ha, rfl⟩ := h
  have hsh : ShC Try.prog reach 5 30 [a] := by
    unfold ArgC at ha; rw [agg30] at ha; exact ha
  obtain ⟨ys, hx, hl, m, hm, hc⟩ := shC_rows u30 hsh
  simp only [List.cons.injEq, and_true] at hx; subst hx
  rw [byn51] at hl
  obtain ⟨w, hw1, hw2, hw3, h13⟩ := szf13 ys 1048576 m (by omega) hl hc ⟨by omega, by omega⟩
  refine pure_wp rfl rfl ?_
  refine wSeqr (fun x hx => ?_); simp only [go_sem, Nat.reduceAdd, Nat.reduceMul, Nat.reduceSub, Nat.reduceEqDiff, Nat.reduceLT, Nat.reduceLeDiff, Int.reduceEq, Int.reduceLT, Int.reduceLE, reduceIte, Nat.add_zero, Nat.zero_add, Nat.mul_one] at hx; subst hx; refine ⟨_, rfl, ?_⟩
  refine wSeqr (fun x hx => ?_); simp only [go_sem, Nat.reduceAdd, Nat.reduceMul, Nat.reduceSub, Nat.reduceEqDiff, Nat.reduceLT, Nat.reduceLeDiff, Int.reduceEq, Int.reduceLT, Int.reduceLE, reduceIte, Nat.add_zero, Nat.zero_add, Nat.mul_one] at hx; subst hx; refine ⟨_, rfl, ?_⟩
  refine wSeqr (fun x hx => ?_); simp only [go_sem, Nat.reduceAdd, Nat.reduceMul, Nat.reduceSub, Nat.reduceEqDiff, Nat.reduceLT, Nat.reduceLeDiff, Int.reduceEq, Int.reduceLT, Int.reduceLE, reduceIte, Nat.add_zero, Nat.zero_add, Nat.mul_one, hp0, h13] at hx; subst hx; refine ⟨_, rfl, ?_⟩
  refine wSeq (wSeqr ?_); refine (fun x hx => ?_); simp only [go_sem, Nat.reduceAdd, Nat.reduceMul, Nat.reduceSub, Nat.reduceEqDiff, Nat.reduceLT, Nat.reduceLeDiff, Int.reduceEq, Int.reduceLT, Int.reduceLE, reduceIte, Nat.add_zero, Nat.zero_add, Nat.mul_one] at hx; subst hx; refine ⟨_, rfl, ?_⟩
  refine wIf (fun y hy => ?_); simp only [go_sem, Nat.reduceAdd, Nat.reduceMul, Nat.reduceSub, Nat.reduceEqDiff, Nat.reduceLT, Nat.reduceLeDiff, Int.reduceEq, Int.reduceLT, Int.reduceLE, reduceIte, Nat.add_zero, Nat.zero_add, Nat.mul_one] at hy; subst hy; refine ⟨_, rfl, fun ht => ?_, fun hf => ?_⟩
  · refine wSeqr (fun x hx => ?_); simp only [go_sem, Nat.reduceAdd, Nat.reduceMul, Nat.reduceSub, Nat.reduceEqDiff, Nat.reduceLT, Nat.reduceLeDiff, Int.reduceEq, Int.reduceLT, Int.reduceLE, reduceIte, Nat.add_zero, Nat.zero_add, Nat.mul_one] at hx; subst hx; refine ⟨_, rfl, ?_⟩
    refine wRet ?_; (try simp only [thenQ, blockQ]); refine ends_ret rfl ?_
    exact ⟨rfl, rfl⟩
  simp only [decide_eq_false_iff_not] at hf
  obtain ⟨hys, hle⟩ := hw3 (by omega)
  have hcs : ∀ c ∈ ys, ShC Try.prog (upTo 1048576) m 51 c := fun c hc' => shC_small m 12 51 c (by omega) (hc c hc') (hle c hc')
  have h15 := to15 ys m (by omega) hys hcs
  have h14 := p14 ys m (by omega) hys hcs
  have h16 := p16 ys m (by omega) hys hcs
  have h17 := eqf17 ys m (by omega) hys hcs
  refine wSkip ?_
  refine wSeqr (fun x hx => ?_); simp only [go_sem, Nat.reduceAdd, Nat.reduceMul, Nat.reduceSub, Nat.reduceEqDiff, Nat.reduceLT, Nat.reduceLeDiff, Int.reduceEq, Int.reduceLT, Int.reduceLE, reduceIte, Nat.add_zero, Nat.zero_add, Nat.mul_one, hp0, h15, h14] at hx; subst hx; refine ⟨_, rfl, ?_⟩
  refine wSeqr (fun x hx => ?_); simp only [go_sem, Nat.reduceAdd, Nat.reduceMul, Nat.reduceSub, Nat.reduceEqDiff, Nat.reduceLT, Nat.reduceLeDiff, Int.reduceEq, Int.reduceLT, Int.reduceLE, reduceIte, Nat.add_zero, Nat.zero_add, Nat.mul_one, hp0, h15] at hx; subst hx; refine ⟨_, rfl, ?_⟩
  refine wSeqr (fun x hx => ?_); simp only [go_sem, Nat.reduceAdd, Nat.reduceMul, Nat.reduceSub, Nat.reduceEqDiff, Nat.reduceLT, Nat.reduceLeDiff, Int.reduceEq, Int.reduceLT, Int.reduceLE, reduceIte, Nat.add_zero, Nat.zero_add, Nat.mul_one, hp0, h16] at hx; subst hx; refine ⟨_, rfl, ?_⟩
  refine wSeq (wSeqr ?_); refine (fun x hx => ?_); simp only [go_sem, Nat.reduceAdd, Nat.reduceMul, Nat.reduceSub, Nat.reduceEqDiff, Nat.reduceLT, Nat.reduceLeDiff, Int.reduceEq, Int.reduceLT, Int.reduceLE, reduceIte, Nat.add_zero, Nat.zero_add, Nat.mul_one] at hx; subst hx; refine ⟨_, rfl, ?_⟩
  refine wIfF (by simp only [go_sem, Nat.reduceAdd, Nat.reduceMul, Nat.reduceSub, Nat.reduceEqDiff, Nat.reduceLT, Nat.reduceLeDiff, Int.reduceEq, Int.reduceLT, Int.reduceLE, reduceIte, Nat.add_zero, Nat.zero_add, Nat.mul_one, bne_self_eq_false, beq_self_eq_true, Bool.not_true]) ?_
  refine wSkip ?_
  refine wSeq (wSeqr ?_); refine (fun x hx => ?_); simp only [go_sem, Nat.reduceAdd, Nat.reduceMul, Nat.reduceSub, Nat.reduceEqDiff, Nat.reduceLT, Nat.reduceLeDiff, Int.reduceEq, Int.reduceLT, Int.reduceLE, reduceIte, Nat.add_zero, Nat.zero_add, Nat.mul_one, hp0, h15, h17] at hx; subst hx; refine ⟨_, rfl, ?_⟩
  refine wIfF (by simp only [go_sem, Nat.reduceAdd, Nat.reduceMul, Nat.reduceSub, Nat.reduceEqDiff, Nat.reduceLT, Nat.reduceLeDiff, Int.reduceEq, Int.reduceLT, Int.reduceLE, reduceIte, Nat.add_zero, Nat.zero_add, Nat.mul_one, Bool.not_true]) ?_
  refine wSkip ?_
  refine wSeqr (fun x hx => ?_); simp only [go_sem, Nat.reduceAdd, Nat.reduceMul, Nat.reduceSub, Nat.reduceEqDiff, Nat.reduceLT, Nat.reduceLeDiff, Int.reduceEq, Int.reduceLT, Int.reduceLE, reduceIte, Nat.add_zero, Nat.zero_add, Nat.mul_one] at hx; subst hx; refine ⟨_, rfl, ?_⟩
  refine wRet ?_; (try simp only [thenQ, blockQ]); refine ends_ret rfl ?_
  exact ⟨rfl, rfl⟩
end
end Go.Proofs.Ytbjcffiaapobpaa
