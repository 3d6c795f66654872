/- Contracts of the laws' generated helpers, printed by fam.py. -/
import Derived.Test.YtbjcffiaapobpaaA1
namespace Go.Proofs.Ytbjcffiaapobpaa
open Go Go.RowKit Go.Proofs.Ytbjcffiaapobpaa.Eng
set_option linter.unusedSimpArgs false
set_option linter.unusedVariables false
set_option maxRecDepth 100000
noncomputable section
theorem ok23 : fnOk Try.prog cfg0 23 Try.f23 = true := by kernel_rfl
theorem iv38 {B : Nat → Nat → Prop} {n : Nat} {c : List AV} (h : ShC Try.prog B n 38 c) : ∃ (x0 : Int) (x1 : List Int), c = [.v (.int .i64 x0), bytesL x1] ∧ (IntKind.i64.min ≤ x0 ∧ x0 ≤ IntKind.i64.max) ∧ (Bytes x1 ∧ B x1.length 1) := by
  obtain ⟨m, hm, g0⟩ := shC_parts fts38 h
  subst hm
  clear h
  obtain ⟨a0, b0, e0, h0, g1⟩ := g0
  subst e0
  obtain ⟨x0, rfl, r0⟩ := shC_i64 u2 h0
  obtain ⟨a1, b1, e1, h1, g2⟩ := g1
  subst e1
  obtain ⟨x1, rfl, r1⟩ := shC_bytes u22 u5 byn5 h1
  have e := partsT_nil.1 g2
  subst e
  exact ⟨x0, x1, rfl, r0, r1⟩
theorem iv51 {B : Nat → Nat → Prop} {n : Nat} {c : List AV} (h : ShC Try.prog B n 51 c) : ∃ (x0 : Int) (x1 : Int) (x2 : Int) (x3 : Int) (x4 : List Int) (x5 : Int) (x6f0 : Int) (x6f1 : List Int), c = [.v (.int .i64 x0), .v (.int .i64 x1), .v (.int .i64 x2), .v (.int .i64 x3), bytesL x4, .v (.int .i64 x5), .v (.int .i64 x6f0), bytesL x6f1] ∧ (IntKind.i64.min ≤ x0 ∧ x0 ≤ IntKind.i64.max) ∧ (IntKind.i64.min ≤ x1 ∧ x1 ≤ IntKind.i64.max) ∧ (IntKind.i64.min ≤ x2 ∧ x2 ≤ IntKind.i64.max) ∧ (IntKind.i64.min ≤ x3 ∧ x3 ≤ IntKind.i64.max) ∧ (Bytes x4 ∧ B x4.length 1) ∧ (IntKind.i64.min ≤ x5 ∧ x5 ≤ IntKind.i64.max) ∧ (IntKind.i64.min ≤ x6f0 ∧ x6f0 ≤ IntKind.i64.max) ∧ (Bytes x6f1 ∧ B x6f1.length 1) ∧ (∃ m, m < n ∧ ShC Try.prog B m 38 [.v (.int .i64 x6f0), bytesL x6f1]) := by
  obtain ⟨m, hm, g0⟩ := shC_parts fts51 h
  subst hm
  clear h
  obtain ⟨a0, b0, e0, h0, g1⟩ := g0
  subst e0
  obtain ⟨x0, rfl, r0⟩ := shC_i64 u2 h0
  obtain ⟨a1, b1, e1, h1, g2⟩ := g1
  subst e1
  obtain ⟨x1, rfl, r1⟩ := shC_i64 u2 h1
  obtain ⟨a2, b2, e2, h2, g3⟩ := g2
  subst e2
  obtain ⟨x2, rfl, r2⟩ := shC_i64 u2 h2
  obtain ⟨a3, b3, e3, h3, g4⟩ := g3
  subst e3
  obtain ⟨x3, rfl, r3⟩ := shC_i64 u2 h3
  obtain ⟨a4, b4, e4, h4, g5⟩ := g4
  subst e4
  obtain ⟨x4, rfl, r4⟩ := shC_bytes u22 u5 byn5 h4
  obtain ⟨a5, b5, e5, h5, g6⟩ := g5
  subst e5
  obtain ⟨x5, rfl, r5⟩ := shC_i64 u2 h5
  obtain ⟨a6, b6, e6, h6, g7⟩ := g6
  subst e6
  have k6 := h6
  obtain ⟨x6f0, x6f1, rfl, t6x6f0, t6x6f1⟩ := iv38 h6
  have e := partsT_nil.1 g7
  subst e
  exact ⟨x0, x1, x2, x3, x4, x5, x6f0, x6f1, rfl, r0, r1, r2, r3, r4, r5, t6x6f0, t6x6f1, ⟨m, by omega, k6⟩⟩
theorem ok47 : fnOk Try.prog cfg0 47 Try.f47 = true := by kernel_rfl
theorem szf47 (l : List Int) (n : Int) (hl : reach l.length 1) (hn : 0 ≤ n ∧ n ≤ 1048576) : ∃ m : Int, -1 ≤ m ∧ m ≤ n ∧ (0 ≤ m → l.length ≤ 1048576) ∧ ∀ H, call Try.prog cfg0 0 47 [bytesL l, .v (.int .i64 n)] H = some (.v (.int .i64 m), H) := by
  have hl' : l.length * 1 ≤ 140737488351232 := hl
  have hw : IntKind.wrap .i64 (n - l.length) = n - l.length := wrap_i64 (by omega) (by omega)
  have key : ∃ v cl, ((∃ m : Int, v = .v (.int .i64 m) ∧ -1 ≤ m ∧ m ≤ n ∧ (0 ≤ m → l.length ≤ 1048576)) ∧ cl = true) ∧ pure Try.prog cfg0 47 Try.f47 [bytesL l, .v (.int .i64 n)] = some (v, cl) := by
    refine pure_ex rfl rfl ?_
    refine wSeqr (fun x hx => ?_); simp only [go_sem, Nat.reduceAdd, Nat.reduceMul, Nat.reduceSub, Nat.reduceEqDiff, Nat.reduceLT, Nat.reduceLeDiff, Int.reduceEq, Int.reduceLT, Int.reduceLE, reduceIte, Nat.add_zero, Nat.zero_add, Nat.mul_one] at hx; subst hx; refine ⟨_, rfl, ?_⟩
    refine wSeqr (fun x hx => ?_); simp only [go_sem, Nat.reduceAdd, Nat.reduceMul, Nat.reduceSub, Nat.reduceEqDiff, Nat.reduceLT, Nat.reduceLeDiff, Int.reduceEq, Int.reduceLT, Int.reduceLE, reduceIte, Nat.add_zero, Nat.zero_add, Nat.mul_one, hw] at hx; subst hx; refine ⟨_, rfl, ?_⟩
    refine wSeq (wSeqr ?_); refine (fun x hx => ?_); simp only [go_sem, Nat.reduceAdd, Nat.reduceMul, Nat.reduceSub, Nat.reduceEqDiff, Nat.reduceLT, Nat.reduceLeDiff, Int.reduceEq, Int.reduceLT, Int.reduceLE, reduceIte, Nat.add_zero, Nat.zero_add, Nat.mul_one] at hx; subst hx; refine ⟨_, rfl, ?_⟩
    refine wIf (fun y hy => ?_); simp only [go_sem, Nat.reduceAdd, Nat.reduceMul, Nat.reduceSub, Nat.reduceEqDiff, Nat.reduceLT, Nat.reduceLeDiff, Int.reduceEq, Int.reduceLT, Int.reduceLE, reduceIte, Nat.add_zero, Nat.zero_add, Nat.mul_one] at hy; subst hy; refine ⟨_, rfl, fun ht => ?_, fun hf => ?_⟩
    · simp only [decide_eq_true_eq] at ht
      refine wSeqr (fun x hx => ?_); simp only [go_sem, Nat.reduceAdd, Nat.reduceMul, Nat.reduceSub, Nat.reduceEqDiff, Nat.reduceLT, Nat.reduceLeDiff, Int.reduceEq, Int.reduceLT, Int.reduceLE, reduceIte, Nat.add_zero, Nat.zero_add, Nat.mul_one] at hx; subst hx; refine ⟨_, rfl, ?_⟩
      refine wRet ?_; (try simp only [thenQ, blockQ]); refine ends_ret rfl ?_
      exact ⟨_, _, ⟨⟨-1, rfl, by omega, by omega, by omega⟩, rfl⟩, rfl, rfl⟩
    · simp only [decide_eq_false_iff_not] at hf
      refine wSkip ?_
      refine wSeqr (fun x hx => ?_); simp only [go_sem, Nat.reduceAdd, Nat.reduceMul, Nat.reduceSub, Nat.reduceEqDiff, Nat.reduceLT, Nat.reduceLeDiff, Int.reduceEq, Int.reduceLT, Int.reduceLE, reduceIte, Nat.add_zero, Nat.zero_add, Nat.mul_one] at hx; subst hx; refine ⟨_, rfl, ?_⟩
      refine wRet ?_; (try simp only [thenQ, blockQ]); refine ends_ret rfl ?_
      exact ⟨_, _, ⟨⟨n - l.length, rfl, by omega, by omega, by omega⟩, rfl⟩, rfl, rfl⟩
  obtain ⟨v, cl, ⟨⟨m, rfl, h1, h2, h3⟩, rfl⟩, hp⟩ := key
  exact ⟨m, h1, h2, h3, fun H => call_of Try.func47 rfl ok47 rfl (by omega) (mapM_two ((bytesL_fz 10 l).1 H) rfl) hp (.inl rfl)⟩
theorem ok38 : fnOk Try.prog cfg0 38 Try.f38 = true := by kernel_rfl
theorem szf38 (c : List AV) (n : Int) (q : Nat) (hq : q ≤ 11) (hc : ShC Try.prog reach q 38 c) (hn : 0 ≤ n ∧ n ≤ 1048576) : ∃ m : Int, -1 ≤ m ∧ m ≤ n ∧ (0 ≤ m → ∀ x ∈ c, leN 1048576 12 x) ∧ ∀ H, call Try.prog cfg0 0 38 [.agg c, .v (.int .i64 n)] H = some (.v (.int .i64 m), H) := by
  have hfz := shC_fz q 11 38 c hq hc
  have hp0 : ∀ a b, cfg0.pol a b = 0 := fun _ _ => rfl
  obtain ⟨x0, x1, rfl, rx0, rx1⟩ := iv38 hc
  have key : ∃ v cl, ((∃ m : Int, v = .v (.int .i64 m) ∧ -1 ≤ m ∧ m ≤ n ∧ (0 ≤ m → ∀ x ∈ [.v (.int .i64 x0), bytesL x1], leN 1048576 12 x)) ∧ cl = true) ∧ pure Try.prog cfg0 38 Try.f38 [.agg [.v (.int .i64 x0), bytesL x1], .v (.int .i64 n)] = some (v, cl) := by
    refine pure_ex rfl rfl ?_
    refine wSeqr (fun x hx => ?_); simp only [go_sem, Nat.reduceAdd, Nat.reduceMul, Nat.reduceSub, Nat.reduceEqDiff, Nat.reduceLT, Nat.reduceLeDiff, Int.reduceEq, Int.reduceLT, Int.reduceLE, reduceIte, Nat.add_zero, Nat.zero_add, Nat.mul_one] at hx; subst hx; refine ⟨_, rfl, ?_⟩
    obtain ⟨m1, p1, q1, b1, hc1⟩ := szf47 x1 n rx1.2 ⟨by omega, by omega⟩
    refine wSeqr (fun x hx => ?_); simp only [go_sem, Nat.reduceAdd, Nat.reduceMul, Nat.reduceSub, Nat.reduceEqDiff, Nat.reduceLT, Nat.reduceLeDiff, Int.reduceEq, Int.reduceLT, Int.reduceLE, reduceIte, Nat.add_zero, Nat.zero_add, Nat.mul_one, hp0, hc1] at hx; subst hx; refine ⟨_, rfl, ?_⟩
    refine wSeq (wSeqr ?_); refine (fun x hx => ?_); simp only [go_sem, Nat.reduceAdd, Nat.reduceMul, Nat.reduceSub, Nat.reduceEqDiff, Nat.reduceLT, Nat.reduceLeDiff, Int.reduceEq, Int.reduceLT, Int.reduceLE, reduceIte, Nat.add_zero, Nat.zero_add, Nat.mul_one] at hx; subst hx; refine ⟨_, rfl, ?_⟩
    refine wIf (fun y hy => ?_); simp only [go_sem, Nat.reduceAdd, Nat.reduceMul, Nat.reduceSub, Nat.reduceEqDiff, Nat.reduceLT, Nat.reduceLeDiff, Int.reduceEq, Int.reduceLT, Int.reduceLE, reduceIte, Nat.add_zero, Nat.zero_add, Nat.mul_one] at hy; subst hy; refine ⟨_, rfl, fun ht => ?_, fun hf => ?_⟩
    · simp only [decide_eq_true_eq] at ht
      refine wSeqr (fun x hx => ?_); simp only [go_sem, Nat.reduceAdd, Nat.reduceMul, Nat.reduceSub, Nat.reduceEqDiff, Nat.reduceLT, Nat.reduceLeDiff, Int.reduceEq, Int.reduceLT, Int.reduceLE, reduceIte, Nat.add_zero, Nat.zero_add, Nat.mul_one] at hx; subst hx; refine ⟨_, rfl, ?_⟩
      refine wRet ?_; (try simp only [thenQ, blockQ]); refine ends_ret rfl ?_
      exact ⟨_, _, ⟨⟨-1, rfl, by omega, by omega, by omega⟩, rfl⟩, rfl, rfl⟩
    simp only [decide_eq_false_iff_not] at hf
    refine wSkip ?_
    refine wSeqr (fun x hx => ?_); simp only [go_sem, Nat.reduceAdd, Nat.reduceMul, Nat.reduceSub, Nat.reduceEqDiff, Nat.reduceLT, Nat.reduceLeDiff, Int.reduceEq, Int.reduceLT, Int.reduceLE, reduceIte, Nat.add_zero, Nat.zero_add, Nat.mul_one] at hx; subst hx; refine ⟨_, rfl, ?_⟩
    refine wRet ?_; (try simp only [thenQ, blockQ]); refine ends_ret rfl ?_
    refine ⟨_, _, ⟨⟨m1, rfl, by omega, by omega, fun _ x hx => ?_⟩, rfl⟩, rfl, rfl⟩
    simp only [List.mem_cons, List.not_mem_nil, or_false] at hx
    rcases hx with rfl | rfl
    · exact leN_int
    · exact leN_bytes (b1 (by omega))
  obtain ⟨v, cl, ⟨⟨m, rfl, h1, h2, h3⟩, rfl⟩, hp⟩ := key
  exact ⟨m, h1, h2, h3, fun H => call_of Try.func38 rfl ok38 rfl (by omega) (mapM_two ((Fz.agg hfz).1 H) rfl) hp (.inl rfl)⟩
theorem szf23 (c : List AV) (n : Int) (q : Nat) (hq : q ≤ 11) (hc : ShC Try.prog reach q 51 c) (hn : 0 ≤ n ∧ n ≤ 1048576) : ∃ m : Int, -1 ≤ m ∧ m ≤ n ∧ (0 ≤ m → ∀ x ∈ c, leN 1048576 12 x) ∧ ∀ H, call Try.prog cfg0 0 23 [.agg c, .v (.int .i64 n)] H = some (.v (.int .i64 m), H) := by
  have hfz := shC_fz q 11 51 c hq hc
  have hp0 : ∀ a b, cfg0.pol a b = 0 := fun _ _ => rfl
  obtain ⟨x0, x1, x2, x3, x4, x5, x6f0, x6f1, rfl, rx0, rx1, rx2, rx3, rx4, rx5, rx6f0, rx6f1, ⟨qk6, qh6, k6⟩⟩ := iv51 hc
  have key : ∃ v cl, ((∃ m : Int, v = .v (.int .i64 m) ∧ -1 ≤ m ∧ m ≤ n ∧ (0 ≤ m → ∀ x ∈ [.v (.int .i64 x0), .v (.int .i64 x1), .v (.int .i64 x2), .v (.int .i64 x3), bytesL x4, .v (.int .i64 x5), .v (.int .i64 x6f0), bytesL x6f1], leN 1048576 12 x)) ∧ cl = true) ∧ pure Try.prog cfg0 23 Try.f23 [.agg [.v (.int .i64 x0), .v (.int .i64 x1), .v (.int .i64 x2), .v (.int .i64 x3), bytesL x4, .v (.int .i64 x5), .v (.int .i64 x6f0), bytesL x6f1], .v (.int .i64 n)] = some (v, cl) := by
    refine pure_ex rfl rfl ?_
    refine wSeqr (fun x hx => ?_); simp only [go_sem, Nat.reduceAdd, Nat.reduceMul, Nat.reduceSub, Nat.reduceEqDiff, Nat.reduceLT, Nat.reduceLeDiff, Int.reduceEq, Int.reduceLT, Int.reduceLE, reduceIte, Nat.add_zero, Nat.zero_add, Nat.mul_one] at hx; subst hx; refine ⟨_, rfl, ?_⟩
    obtain ⟨m4, p4, q4, b4, hc4⟩ := szf47 x4 n rx4.2 ⟨by omega, by omega⟩
    refine wSeqr (fun x hx => ?_); simp only [go_sem, Nat.reduceAdd, Nat.reduceMul, Nat.reduceSub, Nat.reduceEqDiff, Nat.reduceLT, Nat.reduceLeDiff, Int.reduceEq, Int.reduceLT, Int.reduceLE, reduceIte, Nat.add_zero, Nat.zero_add, Nat.mul_one, hp0, hc4] at hx; subst hx; refine ⟨_, rfl, ?_⟩
    refine wSeq (wSeqr ?_); refine (fun x hx => ?_); simp only [go_sem, Nat.reduceAdd, Nat.reduceMul, Nat.reduceSub, Nat.reduceEqDiff, Nat.reduceLT, Nat.reduceLeDiff, Int.reduceEq, Int.reduceLT, Int.reduceLE, reduceIte, Nat.add_zero, Nat.zero_add, Nat.mul_one] at hx; subst hx; refine ⟨_, rfl, ?_⟩
    refine wIf (fun y hy => ?_); simp only [go_sem, Nat.reduceAdd, Nat.reduceMul, Nat.reduceSub, Nat.reduceEqDiff, Nat.reduceLT, Nat.reduceLeDiff, Int.reduceEq, Int.reduceLT, Int.reduceLE, reduceIte, Nat.add_zero, Nat.zero_add, Nat.mul_one] at hy; subst hy; refine ⟨_, rfl, fun ht => ?_, fun hf => ?_⟩
    · simp only [decide_eq_true_eq] at ht
      refine wSeqr (fun x hx => ?_); simp only [go_sem, Nat.reduceAdd, Nat.reduceMul, Nat.reduceSub, Nat.reduceEqDiff, Nat.reduceLT, Nat.reduceLeDiff, Int.reduceEq, Int.reduceLT, Int.reduceLE, reduceIte, Nat.add_zero, Nat.zero_add, Nat.mul_one] at hx; subst hx; refine ⟨_, rfl, ?_⟩
      refine wRet ?_; (try simp only [thenQ, blockQ]); refine ends_ret rfl ?_
      exact ⟨_, _, ⟨⟨-1, rfl, by omega, by omega, by omega⟩, rfl⟩, rfl, rfl⟩
    simp only [decide_eq_false_iff_not] at hf
    refine wSkip ?_
    obtain ⟨m6, p6, q6, b6, hc6⟩ := szf38 [.v (.int .i64 x6f0), bytesL x6f1] m4 qk6 (by omega) k6 ⟨by omega, by omega⟩
    refine wSeqr (fun x hx => ?_); simp only [go_sem, Nat.reduceAdd, Nat.reduceMul, Nat.reduceSub, Nat.reduceEqDiff, Nat.reduceLT, Nat.reduceLeDiff, Int.reduceEq, Int.reduceLT, Int.reduceLE, reduceIte, Nat.add_zero, Nat.zero_add, Nat.mul_one, hp0, hc6] at hx; subst hx; refine ⟨_, rfl, ?_⟩
    refine wSeq (wSeqr ?_); refine (fun x hx => ?_); simp only [go_sem, Nat.reduceAdd, Nat.reduceMul, Nat.reduceSub, Nat.reduceEqDiff, Nat.reduceLT, Nat.reduceLeDiff, Int.reduceEq, Int.reduceLT, Int.reduceLE, reduceIte, Nat.add_zero, Nat.zero_add, Nat.mul_one] at hx; subst hx; refine ⟨_, rfl, ?_⟩
    refine wIf (fun y hy => ?_); simp only [go_sem, Nat.reduceAdd, Nat.reduceMul, Nat.reduceSub, Nat.reduceEqDiff, Nat.reduceLT, Nat.reduceLeDiff, Int.reduceEq, Int.reduceLT, Int.reduceLE, reduceIte, Nat.add_zero, Nat.zero_add, Nat.mul_one] at hy; subst hy; refine ⟨_, rfl, fun ht => ?_, fun hf => ?_⟩
    · simp only [decide_eq_true_eq] at ht
      refine wSeqr (fun x hx => ?_); simp only [go_sem, Nat.reduceAdd, Nat.reduceMul, Nat.reduceSub, Nat.reduceEqDiff, Nat.reduceLT, Nat.reduceLeDiff, Int.reduceEq, Int.reduceLT, Int.reduceLE, reduceIte, Nat.add_zero, Nat.zero_add, Nat.mul_one] at hx; subst hx; refine ⟨_, rfl, ?_⟩
      refine wRet ?_; (try simp only [thenQ, blockQ]); refine ends_ret rfl ?_
      exact ⟨_, _, ⟨⟨-1, rfl, by omega, by omega, by omega⟩, rfl⟩, rfl, rfl⟩
    simp only [decide_eq_false_iff_not] at hf
    refine wSkip ?_
    refine wSeqr (fun x hx => ?_); simp only [go_sem, Nat.reduceAdd, Nat.reduceMul, Nat.reduceSub, Nat.reduceEqDiff, Nat.reduceLT, Nat.reduceLeDiff, Int.reduceEq, Int.reduceLT, Int.reduceLE, reduceIte, Nat.add_zero, Nat.zero_add, Nat.mul_one] at hx; subst hx; refine ⟨_, rfl, ?_⟩
    refine wRet ?_; (try simp only [thenQ, blockQ]); refine ends_ret rfl ?_
    refine ⟨_, _, ⟨⟨m6, rfl, by omega, by omega, fun _ x hx => ?_⟩, rfl⟩, rfl, rfl⟩
    simp only [List.mem_cons, List.not_mem_nil, or_false] at hx
    rcases hx with rfl | rfl | rfl | rfl | rfl | rfl | rfl | rfl
    · exact leN_int
    · exact leN_int
    · exact leN_int
    · exact leN_int
    · exact leN_bytes (b4 (by omega))
    · exact leN_int
    · exact leN_int
    · exact b6 (by omega) _ (by simp)
  obtain ⟨v, cl, ⟨⟨m, rfl, h1, h2, h3⟩, rfl⟩, hp⟩ := key
  exact ⟨m, h1, h2, h3, fun H => call_of Try.func23 rfl ok23 rfl (by omega) (mapM_two ((Fz.agg hfz).1 H) rfl) hp (.inl rfl)⟩
theorem okt25 : fnOk Try.prog cfg0 25 Try.f25 = true := by kernel_rfl
theorem okt41 : fnOk Try.prog cfg0 41 Try.f41 = true := by kernel_rfl
theorem to41 (c : List AV) (q : Nat) (hq : q ≤ 11) (hc : ShC Try.prog (upTo 1048576) q 38 c) : ∀ H, call Try.prog cfg0 0 41 [.agg c] H = some (.agg c, H) := by
  have hfz := shC_fz q 11 38 c hq hc
  have hnr := (Fz.agg hfz).2
  have hp0 : ∀ a b, cfg0.pol a b = 0 := fun _ _ => rfl
  obtain ⟨x0, x1, rfl, rx0, rx1⟩ := iv38 hc
  have hc1 : ∀ H, call Try.prog cfg0 0 9 [bytesL x1] H = some (bytesL x1, H) := fun H => c9 0 (by omega) H x1 _ rx1.2 ((bytesL_fz 10 x1).1 H)
  have key : ∃ v cl, v = AV.agg [.v (.int .i64 x0), bytesL x1] ∧ pure Try.prog cfg0 41 Try.f41 [.agg [.v (.int .i64 x0), bytesL x1]] = some (v, cl) := by
    refine pure_ex (rs := [.cell 2 44]) rfl rfl ?_
    refine wSeqr (fun x hx => ?_); simp only [go_sem, Nat.reduceAdd, Nat.reduceMul, Nat.reduceSub, Nat.reduceEqDiff, Nat.reduceLT, Nat.reduceLeDiff, Int.reduceEq, Int.reduceLT, Int.reduceLE, reduceIte, Nat.add_zero, Nat.zero_add, Nat.mul_one, hp0, hc1] at hx; subst hx; refine ⟨_, rfl, ?_⟩
    refine wSeqr (fun x hx => ?_); simp only [go_sem, Nat.reduceAdd, Nat.reduceMul, Nat.reduceSub, Nat.reduceEqDiff, Nat.reduceLT, Nat.reduceLeDiff, Int.reduceEq, Int.reduceLT, Int.reduceLE, reduceIte, Nat.add_zero, Nat.zero_add, Nat.mul_one, hp0, hc1] at hx; subst hx; refine ⟨_, rfl, ?_⟩
    refine wSeqr (fun x hx => ?_); simp only [go_sem, Nat.reduceAdd, Nat.reduceMul, Nat.reduceSub, Nat.reduceEqDiff, Nat.reduceLT, Nat.reduceLeDiff, Int.reduceEq, Int.reduceLT, Int.reduceLE, reduceIte, Nat.add_zero, Nat.zero_add, Nat.mul_one, hp0, hc1] at hx; subst hx; refine ⟨_, rfl, ?_⟩
    refine wSeqr (fun x hx => ?_); simp only [go_sem, Nat.reduceAdd, Nat.reduceMul, Nat.reduceSub, Nat.reduceEqDiff, Nat.reduceLT, Nat.reduceLeDiff, Int.reduceEq, Int.reduceLT, Int.reduceLE, reduceIte, Nat.add_zero, Nat.zero_add, Nat.mul_one, hp0, hc1] at hx; subst hx; refine ⟨_, rfl, ?_⟩
    refine wSeqr (fun x hx => ?_); simp only [go_sem, Nat.reduceAdd, Nat.reduceMul, Nat.reduceSub, Nat.reduceEqDiff, Nat.reduceLT, Nat.reduceLeDiff, Int.reduceEq, Int.reduceLT, Int.reduceLE, reduceIte, Nat.add_zero, Nat.zero_add, Nat.mul_one, hp0, hc1] at hx; subst hx; refine ⟨_, rfl, ?_⟩
    refine wRet ?_; (try simp only [thenQ, blockQ]); refine ends_by (fun x hx => ?_); simp only [go_sem, Nat.reduceAdd, Nat.reduceMul, Nat.reduceSub, Nat.reduceEqDiff, Nat.reduceLT, Nat.reduceLeDiff, Int.reduceEq, Int.reduceLT, Int.reduceLE, reduceIte, Nat.add_zero, Nat.zero_add, Nat.mul_one, aresults, aresult] at hx; subst hx; refine ⟨_, rfl, ?_⟩
    exact ⟨_, _, rfl, (Fz.agg hfz).1 _, rfl⟩
  obtain ⟨v, cl, rfl, hp⟩ := key
  exact fun H => call_of Try.func41 rfl okt41 rfl (by omega) (by simp only [List.mapM_cons, List.mapM_nil, depthD, (Fz.agg hfz).1 H]; rfl) hp (.inr (by simp only [List.any_cons, List.any_nil, depthD, hnr]; rfl))
theorem to25 (c : List AV) (q : Nat) (hq : q ≤ 11) (hc : ShC Try.prog (upTo 1048576) q 51 c) : ∀ H, call Try.prog cfg0 0 25 [.agg c] H = some (.agg c, H) := by
  have hfz := shC_fz q 11 51 c hq hc
  have hnr := (Fz.agg hfz).2
  have hp0 : ∀ a b, cfg0.pol a b = 0 := fun _ _ => rfl
  obtain ⟨x0, x1, x2, x3, x4, x5, x6f0, x6f1, rfl, rx0, rx1, rx2, rx3, rx4, rx5, rx6f0, rx6f1, ⟨qk6, qh6, k6⟩⟩ := iv51 hc
  have hc4 : ∀ H, call Try.prog cfg0 0 9 [bytesL x4] H = some (bytesL x4, H) := fun H => c9 0 (by omega) H x4 _ rx4.2 ((bytesL_fz 10 x4).1 H)
  have hc6 := to41 _ qk6 (by omega) k6
  have key : ∃ v cl, v = AV.agg [.v (.int .i64 x0), .v (.int .i64 x1), .v (.int .i64 x2), .v (.int .i64 x3), bytesL x4, .v (.int .i64 x5), .v (.int .i64 x6f0), bytesL x6f1] ∧ pure Try.prog cfg0 25 Try.f25 [.agg [.v (.int .i64 x0), .v (.int .i64 x1), .v (.int .i64 x2), .v (.int .i64 x3), bytesL x4, .v (.int .i64 x5), .v (.int .i64 x6f0), bytesL x6f1]] = some (v, cl) := by
    refine pure_ex (rs := [.cell 2 55]) rfl rfl ?_
    refine wSeqr (fun x hx => ?_); simp only [go_sem, Nat.reduceAdd, Nat.reduceMul, Nat.reduceSub, Nat.reduceEqDiff, Nat.reduceLT, Nat.reduceLeDiff, Int.reduceEq, Int.reduceLT, Int.reduceLE, reduceIte, Nat.add_zero, Nat.zero_add, Nat.mul_one, hp0, hc4, hc6] at hx; subst hx; refine ⟨_, rfl, ?_⟩
    refine wSeqr (fun x hx => ?_); simp only [go_sem, Nat.reduceAdd, Nat.reduceMul, Nat.reduceSub, Nat.reduceEqDiff, Nat.reduceLT, Nat.reduceLeDiff, Int.reduceEq, Int.reduceLT, Int.reduceLE, reduceIte, Nat.add_zero, Nat.zero_add, Nat.mul_one, hp0, hc4, hc6] at hx; subst hx; refine ⟨_, rfl, ?_⟩
    refine wSeqr (fun x hx => ?_); simp only [go_sem, Nat.reduceAdd, Nat.reduceMul, Nat.reduceSub, Nat.reduceEqDiff, Nat.reduceLT, Nat.reduceLeDiff, Int.reduceEq, Int.reduceLT, Int.reduceLE, reduceIte, Nat.add_zero, Nat.zero_add, Nat.mul_one, hp0, hc4, hc6] at hx; subst hx; refine ⟨_, rfl, ?_⟩
    refine wSeqr (fun x hx => ?_); simp only [go_sem, Nat.reduceAdd, Nat.reduceMul, Nat.reduceSub, Nat.reduceEqDiff, Nat.reduceLT, Nat.reduceLeDiff, Int.reduceEq, Int.reduceLT, Int.reduceLE, reduceIte, Nat.add_zero, Nat.zero_add, Nat.mul_one, hp0, hc4, hc6] at hx; subst hx; refine ⟨_, rfl, ?_⟩
    refine wSeqr (fun x hx => ?_); simp only [go_sem, Nat.reduceAdd, Nat.reduceMul, Nat.reduceSub, Nat.reduceEqDiff, Nat.reduceLT, Nat.reduceLeDiff, Int.reduceEq, Int.reduceLT, Int.reduceLE, reduceIte, Nat.add_zero, Nat.zero_add, Nat.mul_one, hp0, hc4, hc6] at hx; subst hx; refine ⟨_, rfl, ?_⟩
    refine wSeqr (fun x hx => ?_); simp only [go_sem, Nat.reduceAdd, Nat.reduceMul, Nat.reduceSub, Nat.reduceEqDiff, Nat.reduceLT, Nat.reduceLeDiff, Int.reduceEq, Int.reduceLT, Int.reduceLE, reduceIte, Nat.add_zero, Nat.zero_add, Nat.mul_one, hp0, hc4, hc6] at hx; subst hx; refine ⟨_, rfl, ?_⟩
    refine wSeqr (fun x hx => ?_); simp only [go_sem, Nat.reduceAdd, Nat.reduceMul, Nat.reduceSub, Nat.reduceEqDiff, Nat.reduceLT, Nat.reduceLeDiff, Int.reduceEq, Int.reduceLT, Int.reduceLE, reduceIte, Nat.add_zero, Nat.zero_add, Nat.mul_one, hp0, hc4, hc6] at hx; subst hx; refine ⟨_, rfl, ?_⟩
    refine wSeqr (fun x hx => ?_); simp only [go_sem, Nat.reduceAdd, Nat.reduceMul, Nat.reduceSub, Nat.reduceEqDiff, Nat.reduceLT, Nat.reduceLeDiff, Int.reduceEq, Int.reduceLT, Int.reduceLE, reduceIte, Nat.add_zero, Nat.zero_add, Nat.mul_one, hp0, hc4, hc6] at hx; subst hx; refine ⟨_, rfl, ?_⟩
    refine wSeqr (fun x hx => ?_); simp only [go_sem, Nat.reduceAdd, Nat.reduceMul, Nat.reduceSub, Nat.reduceEqDiff, Nat.reduceLT, Nat.reduceLeDiff, Int.reduceEq, Int.reduceLT, Int.reduceLE, reduceIte, Nat.add_zero, Nat.zero_add, Nat.mul_one, hp0, hc4, hc6] at hx; subst hx; refine ⟨_, rfl, ?_⟩
    refine wSeqr (fun x hx => ?_); simp only [go_sem, Nat.reduceAdd, Nat.reduceMul, Nat.reduceSub, Nat.reduceEqDiff, Nat.reduceLT, Nat.reduceLeDiff, Int.reduceEq, Int.reduceLT, Int.reduceLE, reduceIte, Nat.add_zero, Nat.zero_add, Nat.mul_one, hp0, hc4, hc6] at hx; subst hx; refine ⟨_, rfl, ?_⟩
    refine wRet ?_; (try simp only [thenQ, blockQ]); refine ends_by (fun x hx => ?_); simp only [go_sem, Nat.reduceAdd, Nat.reduceMul, Nat.reduceSub, Nat.reduceEqDiff, Nat.reduceLT, Nat.reduceLeDiff, Int.reduceEq, Int.reduceLT, Int.reduceLE, reduceIte, Nat.add_zero, Nat.zero_add, Nat.mul_one, aresults, aresult] at hx; subst hx; refine ⟨_, rfl, ?_⟩
    exact ⟨_, _, rfl, (Fz.agg hfz).1 _, rfl⟩
  obtain ⟨v, cl, rfl, hp⟩ := key
  exact fun H => call_of Try.func25 rfl okt25 rfl (by omega) (by simp only [List.mapM_cons, List.mapM_nil, depthD, (Fz.agg hfz).1 H]; rfl) hp (.inr (by simp only [List.any_cons, List.any_nil, depthD, hnr]; rfl))
theorem oke27 : fnOk Try.prog cfg0 27 Try.f27 = true := by kernel_rfl
theorem oke45 : fnOk Try.prog cfg0 45 Try.f45 = true := by kernel_rfl
theorem eqf45 (c : List AV) (q : Nat) (hq : q ≤ 11) (hc : ShC Try.prog (upTo 1048576) q 38 c) : ∀ H, call Try.prog cfg0 0 45 [.agg c, .agg c] H = some (.v (.bool true), H) := by
  have hfz := shC_fz q 11 38 c hq hc
  have hp0 : ∀ a b, cfg0.pol a b = 0 := fun _ _ => rfl
  obtain ⟨x0, x1, rfl, rx0, rx1⟩ := iv38 hc
  have hc1 : ∀ H, call Try.prog cfg0 0 12 [bytesL x1, bytesL x1] H = some (.v (.bool true), H) := fun H => c12 0 (by omega) H x1 (Nat.le_trans rx1.2 (by omega))
  have key : pure Try.prog cfg0 45 Try.f45 [.agg [.v (.int .i64 x0), bytesL x1], .agg [.v (.int .i64 x0), bytesL x1]] = some (.v (.bool true), true) := by
    refine pure_wp rfl rfl ?_
    refine wSeqr (fun x hx => ?_); simp only [go_sem, Nat.reduceAdd, Nat.reduceMul, Nat.reduceSub, Nat.reduceEqDiff, Nat.reduceLT, Nat.reduceLeDiff, Int.reduceEq, Int.reduceLT, Int.reduceLE, reduceIte, Nat.add_zero, Nat.zero_add, Nat.mul_one] at hx; subst hx; refine ⟨_, rfl, ?_⟩
    refine wSeq (wSeqr ?_); refine (fun x hx => ?_); simp only [go_sem, Nat.reduceAdd, Nat.reduceMul, Nat.reduceSub, Nat.reduceEqDiff, Nat.reduceLT, Nat.reduceLeDiff, Int.reduceEq, Int.reduceLT, Int.reduceLE, reduceIte, Nat.add_zero, Nat.zero_add, Nat.mul_one, hp0, hc1, not_true_eq_false, decide_false, beq_self_eq_true, Bool.not_true] at hx; subst hx; refine ⟨_, rfl, ?_⟩
    refine wIfF (by simp only [go_sem, Nat.reduceAdd, Nat.reduceMul, Nat.reduceSub, Nat.reduceEqDiff, Nat.reduceLT, Nat.reduceLeDiff, Int.reduceEq, Int.reduceLT, Int.reduceLE, reduceIte, Nat.add_zero, Nat.zero_add, Nat.mul_one, not_true_eq_false, decide_false, Bool.not_true]) ?_
    refine wSkip ?_
    refine wSeq (wSeqr ?_); refine (fun x hx => ?_); simp only [go_sem, Nat.reduceAdd, Nat.reduceMul, Nat.reduceSub, Nat.reduceEqDiff, Nat.reduceLT, Nat.reduceLeDiff, Int.reduceEq, Int.reduceLT, Int.reduceLE, reduceIte, Nat.add_zero, Nat.zero_add, Nat.mul_one, hp0, hc1, not_true_eq_false, decide_false, beq_self_eq_true, Bool.not_true] at hx; subst hx; refine ⟨_, rfl, ?_⟩
    refine wIfF (by simp only [go_sem, Nat.reduceAdd, Nat.reduceMul, Nat.reduceSub, Nat.reduceEqDiff, Nat.reduceLT, Nat.reduceLeDiff, Int.reduceEq, Int.reduceLT, Int.reduceLE, reduceIte, Nat.add_zero, Nat.zero_add, Nat.mul_one, not_true_eq_false, decide_false, Bool.not_true]) ?_
    refine wSkip ?_
    refine wSeqr (fun x hx => ?_); simp only [go_sem, Nat.reduceAdd, Nat.reduceMul, Nat.reduceSub, Nat.reduceEqDiff, Nat.reduceLT, Nat.reduceLeDiff, Int.reduceEq, Int.reduceLT, Int.reduceLE, reduceIte, Nat.add_zero, Nat.zero_add, Nat.mul_one] at hx; subst hx; refine ⟨_, rfl, ?_⟩
    refine wRet ?_; (try simp only [thenQ, blockQ]); refine ends_ret rfl ?_
    exact ⟨rfl, rfl⟩
  exact fun H => call_of Try.func45 rfl oke45 rfl (by omega) (mapM_two ((Fz.agg hfz).1 H) ((Fz.agg hfz).1 H)) key (.inl rfl)
theorem eqf27 (c : List AV) (q : Nat) (hq : q ≤ 11) (hc : ShC Try.prog (upTo 1048576) q 51 c) : ∀ H, call Try.prog cfg0 0 27 [.agg c, .agg c] H = some (.v (.bool true), H) := by
  have hfz := shC_fz q 11 51 c hq hc
  have hp0 : ∀ a b, cfg0.pol a b = 0 := fun _ _ => rfl
  obtain ⟨x0, x1, x2, x3, x4, x5, x6f0, x6f1, rfl, rx0, rx1, rx2, rx3, rx4, rx5, rx6f0, rx6f1, ⟨qk6, qh6, k6⟩⟩ := iv51 hc
  have hc4 : ∀ H, call Try.prog cfg0 0 12 [bytesL x4, bytesL x4] H = some (.v (.bool true), H) := fun H => c12 0 (by omega) H x4 (Nat.le_trans rx4.2 (by omega))
  have hc6 := eqf45 _ qk6 (by omega) k6
  have key : pure Try.prog cfg0 27 Try.f27 [.agg [.v (.int .i64 x0), .v (.int .i64 x1), .v (.int .i64 x2), .v (.int .i64 x3), bytesL x4, .v (.int .i64 x5), .v (.int .i64 x6f0), bytesL x6f1], .agg [.v (.int .i64 x0), .v (.int .i64 x1), .v (.int .i64 x2), .v (.int .i64 x3), bytesL x4, .v (.int .i64 x5), .v (.int .i64 x6f0), bytesL x6f1]] = some (.v (.bool true), true) := by
    refine pure_wp rfl rfl ?_
    refine wSeqr (fun x hx => ?_); simp only [go_sem, Nat.reduceAdd, Nat.reduceMul, Nat.reduceSub, Nat.reduceEqDiff, Nat.reduceLT, Nat.reduceLeDiff, Int.reduceEq, Int.reduceLT, Int.reduceLE, reduceIte, Nat.add_zero, Nat.zero_add, Nat.mul_one] at hx; subst hx; refine ⟨_, rfl, ?_⟩
    refine wSeq (wSeqr ?_); refine (fun x hx => ?_); simp only [go_sem, Nat.reduceAdd, Nat.reduceMul, Nat.reduceSub, Nat.reduceEqDiff, Nat.reduceLT, Nat.reduceLeDiff, Int.reduceEq, Int.reduceLT, Int.reduceLE, reduceIte, Nat.add_zero, Nat.zero_add, Nat.mul_one, hp0, hc4, hc6, not_true_eq_false, decide_false, beq_self_eq_true, Bool.not_true] at hx; subst hx; refine ⟨_, rfl, ?_⟩
    refine wIfF (by simp only [go_sem, Nat.reduceAdd, Nat.reduceMul, Nat.reduceSub, Nat.reduceEqDiff, Nat.reduceLT, Nat.reduceLeDiff, Int.reduceEq, Int.reduceLT, Int.reduceLE, reduceIte, Nat.add_zero, Nat.zero_add, Nat.mul_one, not_true_eq_false, decide_false, Bool.not_true]) ?_
    refine wSkip ?_
    refine wSeq (wSeqr ?_); refine (fun x hx => ?_); simp only [go_sem, Nat.reduceAdd, Nat.reduceMul, Nat.reduceSub, Nat.reduceEqDiff, Nat.reduceLT, Nat.reduceLeDiff, Int.reduceEq, Int.reduceLT, Int.reduceLE, reduceIte, Nat.add_zero, Nat.zero_add, Nat.mul_one, hp0, hc4, hc6, not_true_eq_false, decide_false, beq_self_eq_true, Bool.not_true] at hx; subst hx; refine ⟨_, rfl, ?_⟩
    refine wIfF (by simp only [go_sem, Nat.reduceAdd, Nat.reduceMul, Nat.reduceSub, Nat.reduceEqDiff, Nat.reduceLT, Nat.reduceLeDiff, Int.reduceEq, Int.reduceLT, Int.reduceLE, reduceIte, Nat.add_zero, Nat.zero_add, Nat.mul_one, not_true_eq_false, decide_false, Bool.not_true]) ?_
    refine wSkip ?_
    refine wSeq (wSeqr ?_); refine (fun x hx => ?_); simp only [go_sem, Nat.reduceAdd, Nat.reduceMul, Nat.reduceSub, Nat.reduceEqDiff, Nat.reduceLT, Nat.reduceLeDiff, Int.reduceEq, Int.reduceLT, Int.reduceLE, reduceIte, Nat.add_zero, Nat.zero_add, Nat.mul_one, hp0, hc4, hc6, not_true_eq_false, decide_false, beq_self_eq_true, Bool.not_true] at hx; subst hx; refine ⟨_, rfl, ?_⟩
    refine wIfF (by simp only [go_sem, Nat.reduceAdd, Nat.reduceMul, Nat.reduceSub, Nat.reduceEqDiff, Nat.reduceLT, Nat.reduceLeDiff, Int.reduceEq, Int.reduceLT, Int.reduceLE, reduceIte, Nat.add_zero, Nat.zero_add, Nat.mul_one, not_true_eq_false, decide_false, Bool.not_true]) ?_
    refine wSkip ?_
    refine wSeq (wSeqr ?_); refine (fun x hx => ?_); simp only [go_sem, Nat.reduceAdd, Nat.reduceMul, Nat.reduceSub, Nat.reduceEqDiff, Nat.reduceLT, Nat.reduceLeDiff, Int.reduceEq, Int.reduceLT, Int.reduceLE, reduceIte, Nat.add_zero, Nat.zero_add, Nat.mul_one, hp0, hc4, hc6, not_true_eq_false, decide_false, beq_self_eq_true, Bool.not_true] at hx; subst hx; refine ⟨_, rfl, ?_⟩
    refine wIfF (by simp only [go_sem, Nat.reduceAdd, Nat.reduceMul, Nat.reduceSub, Nat.reduceEqDiff, Nat.reduceLT, Nat.reduceLeDiff, Int.reduceEq, Int.reduceLT, Int.reduceLE, reduceIte, Nat.add_zero, Nat.zero_add, Nat.mul_one, not_true_eq_false, decide_false, Bool.not_true]) ?_
    refine wSkip ?_
    refine wSeq (wSeqr ?_); refine (fun x hx => ?_); simp only [go_sem, Nat.reduceAdd, Nat.reduceMul, Nat.reduceSub, Nat.reduceEqDiff, Nat.reduceLT, Nat.reduceLeDiff, Int.reduceEq, Int.reduceLT, Int.reduceLE, reduceIte, Nat.add_zero, Nat.zero_add, Nat.mul_one, hp0, hc4, hc6, not_true_eq_false, decide_false, beq_self_eq_true, Bool.not_true] at hx; subst hx; refine ⟨_, rfl, ?_⟩
    refine wIfF (by simp only [go_sem, Nat.reduceAdd, Nat.reduceMul, Nat.reduceSub, Nat.reduceEqDiff, Nat.reduceLT, Nat.reduceLeDiff, Int.reduceEq, Int.reduceLT, Int.reduceLE, reduceIte, Nat.add_zero, Nat.zero_add, Nat.mul_one, not_true_eq_false, decide_false, Bool.not_true]) ?_
    refine wSkip ?_
    refine wSeq (wSeqr ?_); refine (fun x hx => ?_); simp only [go_sem, Nat.reduceAdd, Nat.reduceMul, Nat.reduceSub, Nat.reduceEqDiff, Nat.reduceLT, Nat.reduceLeDiff, Int.reduceEq, Int.reduceLT, Int.reduceLE, reduceIte, Nat.add_zero, Nat.zero_add, Nat.mul_one, hp0, hc4, hc6, not_true_eq_false, decide_false, beq_self_eq_true, Bool.not_true] at hx; subst hx; refine ⟨_, rfl, ?_⟩
    refine wIfF (by simp only [go_sem, Nat.reduceAdd, Nat.reduceMul, Nat.reduceSub, Nat.reduceEqDiff, Nat.reduceLT, Nat.reduceLeDiff, Int.reduceEq, Int.reduceLT, Int.reduceLE, reduceIte, Nat.add_zero, Nat.zero_add, Nat.mul_one, not_true_eq_false, decide_false, Bool.not_true]) ?_
    refine wSkip ?_
    refine wSeq (wSeqr ?_); refine (fun x hx => ?_); simp only [go_sem, Nat.reduceAdd, Nat.reduceMul, Nat.reduceSub, Nat.reduceEqDiff, Nat.reduceLT, Nat.reduceLeDiff, Int.reduceEq, Int.reduceLT, Int.reduceLE, reduceIte, Nat.add_zero, Nat.zero_add, Nat.mul_one, hp0, hc4, hc6, not_true_eq_false, decide_false, beq_self_eq_true, Bool.not_true] at hx; subst hx; refine ⟨_, rfl, ?_⟩
    refine wIfF (by simp only [go_sem, Nat.reduceAdd, Nat.reduceMul, Nat.reduceSub, Nat.reduceEqDiff, Nat.reduceLT, Nat.reduceLeDiff, Int.reduceEq, Int.reduceLT, Int.reduceLE, reduceIte, Nat.add_zero, Nat.zero_add, Nat.mul_one, not_true_eq_false, decide_false, Bool.not_true]) ?_
    refine wSkip ?_
    refine wSeqr (fun x hx => ?_); simp only [go_sem, Nat.reduceAdd, Nat.reduceMul, Nat.reduceSub, Nat.reduceEqDiff, Nat.reduceLT, Nat.reduceLeDiff, Int.reduceEq, Int.reduceLT, Int.reduceLE, reduceIte, Nat.add_zero, Nat.zero_add, Nat.mul_one] at hx; subst hx; refine ⟨_, rfl, ?_⟩
    refine wRet ?_; (try simp only [thenQ, blockQ]); refine ends_ret rfl ?_
    exact ⟨rfl, rfl⟩
  exact fun H => call_of Try.func27 rfl oke27 rfl (by omega) (mapM_two ((Fz.agg hfz).1 H) ((Fz.agg hfz).1 H)) key (.inl rfl)
theorem ok18 : fnOk Try.prog cfg0 18 Try.f18 = true := by kernel_rfl
theorem iv41 {B : Nat → Nat → Prop} {n : Nat} {c : List AV} (h : ShC Try.prog B n 41 c) : ∃ (x0f0 : Int) (x0f1 : List Int) (x1 : List Int), c = [.v (.int .i64 x0f0), bytesL x0f1, i64L x1] ∧ (IntKind.i64.min ≤ x0f0 ∧ x0f0 ≤ IntKind.i64.max) ∧ (Bytes x0f1 ∧ B x0f1.length 1) ∧ (I64s x1 ∧ B x1.length 8) ∧ (∃ m, m < n ∧ ShC Try.prog B m 38 [.v (.int .i64 x0f0), bytesL x0f1]) := by
  obtain ⟨m, hm, g0⟩ := shC_parts fts41 h
  subst hm
  clear h
  obtain ⟨a0, b0, e0, h0, g1⟩ := g0
  subst e0
  have k0 := h0
  obtain ⟨x0f0, x0f1, rfl, t0x0f0, t0x0f1⟩ := iv38 h0
  obtain ⟨a1, b1, e1, h1, g2⟩ := g1
  subst e1
  obtain ⟨x1, rfl, r1⟩ := shC_i64s u39 u2 byn2 h1
  have e := partsT_nil.1 g2
  subst e
  exact ⟨x0f0, x0f1, x1, rfl, t0x0f0, t0x0f1, r1, ⟨m, by omega, k0⟩⟩
theorem ok39 : fnOk Try.prog cfg0 39 Try.f39 = true := by kernel_rfl
theorem szf39 (l : List Int) (n : Int) (hl : reach l.length 8) (hn : 0 ≤ n ∧ n ≤ 1048576) : ∃ m : Int, -1 ≤ m ∧ m ≤ n ∧ (0 ≤ m → l.length ≤ 1048576) ∧ ∀ H, call Try.prog cfg0 0 39 [i64L l, .v (.int .i64 n)] H = some (.v (.int .i64 m), H) := by
  have hl' : l.length * 8 ≤ 140737488351232 := hl
  have hw : IntKind.wrap .i64 (n - l.length) = n - l.length := wrap_i64 (by omega) (by omega)
  have key : ∃ v cl, ((∃ m : Int, v = .v (.int .i64 m) ∧ -1 ≤ m ∧ m ≤ n ∧ (0 ≤ m → l.length ≤ 1048576)) ∧ cl = true) ∧ pure Try.prog cfg0 39 Try.f39 [i64L l, .v (.int .i64 n)] = some (v, cl) := by
    refine pure_ex rfl rfl ?_
    refine wSeqr (fun x hx => ?_); simp only [go_sem, Nat.reduceAdd, Nat.reduceMul, Nat.reduceSub, Nat.reduceEqDiff, Nat.reduceLT, Nat.reduceLeDiff, Int.reduceEq, Int.reduceLT, Int.reduceLE, reduceIte, Nat.add_zero, Nat.zero_add, Nat.mul_one] at hx; subst hx; refine ⟨_, rfl, ?_⟩
    refine wSeqr (fun x hx => ?_); simp only [go_sem, Nat.reduceAdd, Nat.reduceMul, Nat.reduceSub, Nat.reduceEqDiff, Nat.reduceLT, Nat.reduceLeDiff, Int.reduceEq, Int.reduceLT, Int.reduceLE, reduceIte, Nat.add_zero, Nat.zero_add, Nat.mul_one, hw] at hx; subst hx; refine ⟨_, rfl, ?_⟩
    refine wSeq (wSeqr ?_); refine (fun x hx => ?_); simp only [go_sem, Nat.reduceAdd, Nat.reduceMul, Nat.reduceSub, Nat.reduceEqDiff, Nat.reduceLT, Nat.reduceLeDiff, Int.reduceEq, Int.reduceLT, Int.reduceLE, reduceIte, Nat.add_zero, Nat.zero_add, Nat.mul_one] at hx; subst hx; refine ⟨_, rfl, ?_⟩
    refine wIf (fun y hy => ?_); simp only [go_sem, Nat.reduceAdd, Nat.reduceMul, Nat.reduceSub, Nat.reduceEqDiff, Nat.reduceLT, Nat.reduceLeDiff, Int.reduceEq, Int.reduceLT, Int.reduceLE, reduceIte, Nat.add_zero, Nat.zero_add, Nat.mul_one] at hy; subst hy; refine ⟨_, rfl, fun ht => ?_, fun hf => ?_⟩
    · simp only [decide_eq_true_eq] at ht
      refine wSeqr (fun x hx => ?_); simp only [go_sem, Nat.reduceAdd, Nat.reduceMul, Nat.reduceSub, Nat.reduceEqDiff, Nat.reduceLT, Nat.reduceLeDiff, Int.reduceEq, Int.reduceLT, Int.reduceLE, reduceIte, Nat.add_zero, Nat.zero_add, Nat.mul_one] at hx; subst hx; refine ⟨_, rfl, ?_⟩
      refine wRet ?_; (try simp only [thenQ, blockQ]); refine ends_ret rfl ?_
      exact ⟨_, _, ⟨⟨-1, rfl, by omega, by omega, by omega⟩, rfl⟩, rfl, rfl⟩
    · simp only [decide_eq_false_iff_not] at hf
      refine wSkip ?_
      refine wSeqr (fun x hx => ?_); simp only [go_sem, Nat.reduceAdd, Nat.reduceMul, Nat.reduceSub, Nat.reduceEqDiff, Nat.reduceLT, Nat.reduceLeDiff, Int.reduceEq, Int.reduceLT, Int.reduceLE, reduceIte, Nat.add_zero, Nat.zero_add, Nat.mul_one] at hx; subst hx; refine ⟨_, rfl, ?_⟩
      refine wRet ?_; (try simp only [thenQ, blockQ]); refine ends_ret rfl ?_
      exact ⟨_, _, ⟨⟨n - l.length, rfl, by omega, by omega, by omega⟩, rfl⟩, rfl, rfl⟩
  obtain ⟨v, cl, ⟨⟨m, rfl, h1, h2, h3⟩, rfl⟩, hp⟩ := key
  exact ⟨m, h1, h2, h3, fun H => call_of Try.func39 rfl ok39 rfl (by omega) (mapM_two ((i64L_fz 10 l).1 H) rfl) hp (.inl rfl)⟩
theorem szf18 (c : List AV) (n : Int) (q : Nat) (hq : q ≤ 11) (hc : ShC Try.prog reach q 41 c) (hn : 0 ≤ n ∧ n ≤ 1048576) : ∃ m : Int, -1 ≤ m ∧ m ≤ n ∧ (0 ≤ m → ∀ x ∈ c, leN 1048576 12 x) ∧ ∀ H, call Try.prog cfg0 0 18 [.agg c, .v (.int .i64 n)] H = some (.v (.int .i64 m), H) := by
  have hfz := shC_fz q 11 41 c hq hc
  have hp0 : ∀ a b, cfg0.pol a b = 0 := fun _ _ => rfl
  obtain ⟨x0f0, x0f1, x1, rfl, rx0f0, rx0f1, rx1, ⟨qk0, qh0, k0⟩⟩ := iv41 hc
  have key : ∃ v cl, ((∃ m : Int, v = .v (.int .i64 m) ∧ -1 ≤ m ∧ m ≤ n ∧ (0 ≤ m → ∀ x ∈ [.v (.int .i64 x0f0), bytesL x0f1, i64L x1], leN 1048576 12 x)) ∧ cl = true) ∧ pure Try.prog cfg0 18 Try.f18 [.agg [.v (.int .i64 x0f0), bytesL x0f1, i64L x1], .v (.int .i64 n)] = some (v, cl) := by
    refine pure_ex rfl rfl ?_
    refine wSeqr (fun x hx => ?_); simp only [go_sem, Nat.reduceAdd, Nat.reduceMul, Nat.reduceSub, Nat.reduceEqDiff, Nat.reduceLT, Nat.reduceLeDiff, Int.reduceEq, Int.reduceLT, Int.reduceLE, reduceIte, Nat.add_zero, Nat.zero_add, Nat.mul_one] at hx; subst hx; refine ⟨_, rfl, ?_⟩
    obtain ⟨m0, p0, q0, b0, hc0⟩ := szf38 [.v (.int .i64 x0f0), bytesL x0f1] n qk0 (by omega) k0 ⟨by omega, by omega⟩
    refine wSeqr (fun x hx => ?_); simp only [go_sem, Nat.reduceAdd, Nat.reduceMul, Nat.reduceSub, Nat.reduceEqDiff, Nat.reduceLT, Nat.reduceLeDiff, Int.reduceEq, Int.reduceLT, Int.reduceLE, reduceIte, Nat.add_zero, Nat.zero_add, Nat.mul_one, hp0, hc0] at hx; subst hx; refine ⟨_, rfl, ?_⟩
    refine wSeq (wSeqr ?_); refine (fun x hx => ?_); simp only [go_sem, Nat.reduceAdd, Nat.reduceMul, Nat.reduceSub, Nat.reduceEqDiff, Nat.reduceLT, Nat.reduceLeDiff, Int.reduceEq, Int.reduceLT, Int.reduceLE, reduceIte, Nat.add_zero, Nat.zero_add, Nat.mul_one] at hx; subst hx; refine ⟨_, rfl, ?_⟩
    refine wIf (fun y hy => ?_); simp only [go_sem, Nat.reduceAdd, Nat.reduceMul, Nat.reduceSub, Nat.reduceEqDiff, Nat.reduceLT, Nat.reduceLeDiff, Int.reduceEq, Int.reduceLT, Int.reduceLE, reduceIte, Nat.add_zero, Nat.zero_add, Nat.mul_one] at hy; subst hy; refine ⟨_, rfl, fun ht => ?_, fun hf => ?_⟩
    · simp only [decide_eq_true_eq] at ht
      refine wSeqr (fun x hx => ?_); simp only [go_sem, Nat.reduceAdd, Nat.reduceMul, Nat.reduceSub, Nat.reduceEqDiff, Nat.reduceLT, Nat.reduceLeDiff, Int.reduceEq, Int.reduceLT, Int.reduceLE, reduceIte, Nat.add_zero, Nat.zero_add, Nat.mul_one] at hx; subst hx; refine ⟨_, rfl, ?_⟩
      refine wRet ?_; (try simp only [thenQ, blockQ]); refine ends_ret rfl ?_
      exact ⟨_, _, ⟨⟨-1, rfl, by omega, by omega, by omega⟩, rfl⟩, rfl, rfl⟩
    simp only [decide_eq_false_iff_not] at hf
    refine wSkip ?_
    obtain ⟨m1, p1, q1, b1, hc1⟩ := szf39 x1 m0 rx1.2 ⟨by omega, by omega⟩
    refine wSeqr (fun x hx => ?_); simp only [go_sem, Nat.reduceAdd, Nat.reduceMul, Nat.reduceSub, Nat.reduceEqDiff, Nat.reduceLT, Nat.reduceLeDiff, Int.reduceEq, Int.reduceLT, Int.reduceLE, reduceIte, Nat.add_zero, Nat.zero_add, Nat.mul_one, hp0, hc1] at hx; subst hx; refine ⟨_, rfl, ?_⟩
    refine wSeq (wSeqr ?_); refine (fun x hx => ?_); simp only [go_sem, Nat.reduceAdd, Nat.reduceMul, Nat.reduceSub, Nat.reduceEqDiff, Nat.reduceLT, Nat.reduceLeDiff, Int.reduceEq, Int.reduceLT, Int.reduceLE, reduceIte, Nat.add_zero, Nat.zero_add, Nat.mul_one] at hx; subst hx; refine ⟨_, rfl, ?_⟩
    refine wIf (fun y hy => ?_); simp only [go_sem, Nat.reduceAdd, Nat.reduceMul, Nat.reduceSub, Nat.reduceEqDiff, Nat.reduceLT, Nat.reduceLeDiff, Int.reduceEq, Int.reduceLT, Int.reduceLE, reduceIte, Nat.add_zero, Nat.zero_add, Nat.mul_one] at hy; subst hy; refine ⟨_, rfl, fun ht => ?_, fun hf => ?_⟩
    · simp only [decide_eq_true_eq] at ht
      refine wSeqr (fun x hx => ?_); simp only [go_sem, Nat.reduceAdd, Nat.reduceMul, Nat.reduceSub, Nat.reduceEqDiff, Nat.reduceLT, Nat.reduceLeDiff, Int.reduceEq, Int.reduceLT, Int.reduceLE, reduceIte, Nat.add_zero, Nat.zero_add, Nat.mul_one] at hx; subst hx; refine ⟨_, rfl, ?_⟩
      refine wRet ?_; (try simp only [thenQ, blockQ]); refine ends_ret rfl ?_
      exact ⟨_, _, ⟨⟨-1, rfl, by omega, by omega, by omega⟩, rfl⟩, rfl, rfl⟩
    simp only [decide_eq_false_iff_not] at hf
    refine wSkip ?_
    refine wSeqr (fun x hx => ?_); simp only [go_sem, Nat.reduceAdd, Nat.reduceMul, Nat.reduceSub, Nat.reduceEqDiff, Nat.reduceLT, Nat.reduceLeDiff, Int.reduceEq, Int.reduceLT, Int.reduceLE, reduceIte, Nat.add_zero, Nat.zero_add, Nat.mul_one] at hx; subst hx; refine ⟨_, rfl, ?_⟩
    refine wRet ?_; (try simp only [thenQ, blockQ]); refine ends_ret rfl ?_
    refine ⟨_, _, ⟨⟨m1, rfl, by omega, by omega, fun _ x hx => ?_⟩, rfl⟩, rfl, rfl⟩
    simp only [List.mem_cons, List.not_mem_nil, or_false] at hx
    rcases hx with rfl | rfl | rfl
    · exact leN_int
    · exact b0 (by omega) _ (by simp)
    · exact leN_i64s (b1 (by omega))
  obtain ⟨v, cl, ⟨⟨m, rfl, h1, h2, h3⟩, rfl⟩, hp⟩ := key
  exact ⟨m, h1, h2, h3, fun H => call_of Try.func18 rfl ok18 rfl (by omega) (mapM_two ((Fz.agg hfz).1 H) rfl) hp (.inl rfl)⟩
theorem okt20 : fnOk Try.prog cfg0 20 Try.f20 = true := by kernel_rfl
theorem okt42 : fnOk Try.prog cfg0 42 Try.f42 = true := by kernel_rfl
theorem to42 (l : List Int) (hl : l.length ≤ 1048576) : ∀ H, call Try.prog cfg0 0 42 [i64L l] H = some (i64L l, H) := by
  have key : pure Try.prog cfg0 42 Try.f42 [i64L l] = some (i64L l, true) := by
    refine pure_wp rfl rfl ?_
    refine wSeqr (fun x hx => ?_); simp only [go_sem, Nat.reduceAdd, Nat.reduceMul, Nat.reduceSub, Nat.reduceEqDiff, Nat.reduceLT, Nat.reduceLeDiff, Int.reduceEq, Int.reduceLT, Int.reduceLE, reduceIte, Nat.add_zero, Nat.zero_add, Nat.mul_one] at hx; subst hx; refine ⟨_, rfl, ?_⟩
    have hr := roomy_of (n := l.length) (b := 8) (by omega) (by omega)
    refine wSeqr (fun x hx => ?_); simp only [go_sem, Nat.reduceAdd, Nat.reduceMul, Nat.reduceSub, Nat.reduceEqDiff, Nat.reduceLT, Nat.reduceLeDiff, Int.reduceEq, Int.reduceLT, Int.reduceLE, reduceIte, Nat.add_zero, Nat.zero_add, Nat.mul_one, hr] at hx; subst hx; refine ⟨_, rfl, ?_⟩
    refine wSeq (wSeqr ?_); refine (fun x hx => ?_); simp only [go_sem, Nat.reduceAdd, Nat.reduceMul, Nat.reduceSub, Nat.reduceEqDiff, Nat.reduceLT, Nat.reduceLeDiff, Int.reduceEq, Int.reduceLT, Int.reduceLE, reduceIte, Nat.add_zero, Nat.zero_add, Nat.mul_one] at hx; subst hx; refine ⟨_, rfl, ?_⟩
    refine wBlock (wLoop (fun k s => ∃ j, j + k = l.length ∧ s.1 0 = i64L l ∧ s.1 4 = .v (.int .i64 (j : Nat)) ∧ s.1 3 = .sl 0 1 0 l.length ∧ s.2.h 0 = some ((l.take j ++ List.replicate (l.length - j) 0).map icell)) (fun k s hI => ?_) l.length _ ?_)
    · obtain ⟨e, H⟩ := s
      obtain ⟨j, hj, h0, h4, h3, hh⟩ := hI
      simp only at h0 h4 h3 hh
      refine wSeq (wSeqr ?_); refine (fun x hx => ?_); simp only [go_sem, Nat.reduceAdd, Nat.reduceMul, Nat.reduceSub, Nat.reduceEqDiff, Nat.reduceLT, Nat.reduceLeDiff, Int.reduceEq, Int.reduceLT, Int.reduceLE, reduceIte, Nat.add_zero, Nat.zero_add, Nat.mul_one, h0, h4] at hx; subst hx; refine ⟨_, rfl, ?_⟩
      refine wIf (fun y hy => ?_); simp only [go_sem, Nat.reduceAdd, Nat.reduceMul, Nat.reduceSub, Nat.reduceEqDiff, Nat.reduceLT, Nat.reduceLeDiff, Int.reduceEq, Int.reduceLT, Int.reduceLE, reduceIte, Nat.add_zero, Nat.zero_add, Nat.mul_one] at hy; subst hy; refine ⟨_, rfl, fun ht => ?_, fun hf => ?_⟩
      · simp only [decide_eq_true_eq] at ht
        have hlt : j < l.length := by omega
        have hg := get_icell hlt
        have hlen : (List.map icell (l.take j ++ List.replicate (l.length - j) 0)).length = l.length := by simp; omega
        refine wSkip (wSeq (wBlock (wReg ?_))); refine (fun x hx => ?_); simp only [go_sem, Nat.reduceAdd, Nat.reduceMul, Nat.reduceSub, Nat.reduceEqDiff, Nat.reduceLT, Nat.reduceLeDiff, Int.reduceEq, Int.reduceLT, Int.reduceLE, reduceIte, Nat.add_zero, Nat.zero_add, Nat.mul_one, h0, h3, h4, hg, hh, hlt, hlen, Option.isSome_some, i64L, show j + 1 ≤ l.length from hlt] at hx; subst hx; refine ⟨_, rfl, ?_⟩
        refine wReg (fun x hx => ?_); simp only [go_sem, Nat.reduceAdd, Nat.reduceMul, Nat.reduceSub, Nat.reduceEqDiff, Nat.reduceLT, Nat.reduceLeDiff, Int.reduceEq, Int.reduceLT, Int.reduceLE, reduceIte, Nat.add_zero, Nat.zero_add, Nat.mul_one, h4, wrap_succ (show j < 9223372036854775807 by omega)] at hx; subst hx; refine ⟨_, rfl, ?_⟩
        refine ⟨k - 1, by omega, j + 1, by omega, ?_⟩
        refine ⟨by simp only [upd_eq, Nat.reduceEqDiff, if_false, h0], by simp only [upd_eq, Nat.reduceEqDiff, if_true], by simp only [upd_eq, Nat.reduceEqDiff, if_false, h3], ?_⟩
        simp only [Hp.set_h, if_true, ← take_set hlt]
        exact congrArg some (map_set_icell _ _ _)
      · simp only [decide_eq_false_iff_not] at hf
        have hj' : j = l.length := by omega
        subst hj'
        refine wExit ?_; simp only [thenQ, blockQ, reduceIte, Nat.reduceEqDiff]
        refine wSeqr (fun x hx => ?_); simp only [go_sem, Nat.reduceAdd, Nat.reduceMul, Nat.reduceSub, Nat.reduceEqDiff, Nat.reduceLT, Nat.reduceLeDiff, Int.reduceEq, Int.reduceLT, Int.reduceLE, reduceIte, Nat.add_zero, Nat.zero_add, Nat.mul_one, h3] at hx; subst hx; refine ⟨_, rfl, ?_⟩
        refine wRet (ends_ret rfl ?_)
        have hh' : H.h 0 = some (l.map icell) := by rw [hh]; simp
        simp only [tupOf, upd_eq, Nat.reduceEqDiff, if_true]
        exact ⟨deep_i64s hh' rfl, clean_i64s hh'⟩
    · refine ⟨0, by omega, rfl, rfl, rfl, ?_⟩
      simp only [Hp.new_h, nil_g, if_true, Nat.sub_zero, List.take_zero, List.nil_append]
      exact congrArg some (zeros_icell _)
  exact fun H => call_of Try.func42 rfl okt42 rfl (by omega) (by simp only [List.mapM_cons, List.mapM_nil, depthD, (i64L_fz 10 l).1 H]; rfl) key (.inl rfl)
theorem to20 (c : List AV) (q : Nat) (hq : q ≤ 11) (hc : ShC Try.prog (upTo 1048576) q 41 c) : ∀ H, call Try.prog cfg0 0 20 [.agg c] H = some (.agg c, H) := by
  have hfz := shC_fz q 11 41 c hq hc
  have hnr := (Fz.agg hfz).2
  have hp0 : ∀ a b, cfg0.pol a b = 0 := fun _ _ => rfl
  obtain ⟨x0f0, x0f1, x1, rfl, rx0f0, rx0f1, rx1, ⟨qk0, qh0, k0⟩⟩ := iv41 hc
  have hc0 := to41 _ qk0 (by omega) k0
  have hc1 := to42 x1 rx1.2
  have key : ∃ v cl, v = AV.agg [.v (.int .i64 x0f0), bytesL x0f1, i64L x1] ∧ pure Try.prog cfg0 20 Try.f20 [.agg [.v (.int .i64 x0f0), bytesL x0f1, i64L x1]] = some (v, cl) := by
    refine pure_ex (rs := [.cell 2 46]) rfl rfl ?_
    refine wSeqr (fun x hx => ?_); simp only [go_sem, Nat.reduceAdd, Nat.reduceMul, Nat.reduceSub, Nat.reduceEqDiff, Nat.reduceLT, Nat.reduceLeDiff, Int.reduceEq, Int.reduceLT, Int.reduceLE, reduceIte, Nat.add_zero, Nat.zero_add, Nat.mul_one, hp0, hc0, hc1] at hx; subst hx; refine ⟨_, rfl, ?_⟩
    refine wSeqr (fun x hx => ?_); simp only [go_sem, Nat.reduceAdd, Nat.reduceMul, Nat.reduceSub, Nat.reduceEqDiff, Nat.reduceLT, Nat.reduceLeDiff, Int.reduceEq, Int.reduceLT, Int.reduceLE, reduceIte, Nat.add_zero, Nat.zero_add, Nat.mul_one, hp0, hc0, hc1] at hx; subst hx; refine ⟨_, rfl, ?_⟩
    refine wSeqr (fun x hx => ?_); simp only [go_sem, Nat.reduceAdd, Nat.reduceMul, Nat.reduceSub, Nat.reduceEqDiff, Nat.reduceLT, Nat.reduceLeDiff, Int.reduceEq, Int.reduceLT, Int.reduceLE, reduceIte, Nat.add_zero, Nat.zero_add, Nat.mul_one, hp0, hc0, hc1] at hx; subst hx; refine ⟨_, rfl, ?_⟩
    refine wSeqr (fun x hx => ?_); simp only [go_sem, Nat.reduceAdd, Nat.reduceMul, Nat.reduceSub, Nat.reduceEqDiff, Nat.reduceLT, Nat.reduceLeDiff, Int.reduceEq, Int.reduceLT, Int.reduceLE, reduceIte, Nat.add_zero, Nat.zero_add, Nat.mul_one, hp0, hc0, hc1] at hx; subst hx; refine ⟨_, rfl, ?_⟩
    refine wSeqr (fun x hx => ?_); simp only [go_sem, Nat.reduceAdd, Nat.reduceMul, Nat.reduceSub, Nat.reduceEqDiff, Nat.reduceLT, Nat.reduceLeDiff, Int.reduceEq, Int.reduceLT, Int.reduceLE, reduceIte, Nat.add_zero, Nat.zero_add, Nat.mul_one, hp0, hc0, hc1] at hx; subst hx; refine ⟨_, rfl, ?_⟩
    refine wRet ?_; (try simp only [thenQ, blockQ]); refine ends_by (fun x hx => ?_); simp only [go_sem, Nat.reduceAdd, Nat.reduceMul, Nat.reduceSub, Nat.reduceEqDiff, Nat.reduceLT, Nat.reduceLeDiff, Int.reduceEq, Int.reduceLT, Int.reduceLE, reduceIte, Nat.add_zero, Nat.zero_add, Nat.mul_one, aresults, aresult] at hx; subst hx; refine ⟨_, rfl, ?_⟩
    exact ⟨_, _, rfl, (Fz.agg hfz).1 _, rfl⟩
  obtain ⟨v, cl, rfl, hp⟩ := key
  exact fun H => call_of Try.func20 rfl okt20 rfl (by omega) (by simp only [List.mapM_cons, List.mapM_nil, depthD, (Fz.agg hfz).1 H]; rfl) hp (.inr (by simp only [List.any_cons, List.any_nil, depthD, hnr]; rfl))
theorem oke22 : fnOk Try.prog cfg0 22 Try.f22 = true := by kernel_rfl
theorem oke46 : fnOk Try.prog cfg0 46 Try.f46 = true := by kernel_rfl
theorem eqf46 (l : List Int) (hl : l.length ≤ 4611686018427387904) : ∀ H, call Try.prog cfg0 0 46 [i64L l, i64L l] H = some (.v (.bool true), H) := by
  have key : pure Try.prog cfg0 46 Try.f46 [i64L l, i64L l] = some (.v (.bool true), true) := by
    refine pure_wp rfl rfl ?_
    refine wSeqr (fun x hx => ?_); simp only [go_sem, Nat.reduceAdd, Nat.reduceMul, Nat.reduceSub, Nat.reduceEqDiff, Nat.reduceLT, Nat.reduceLeDiff, Int.reduceEq, Int.reduceLT, Int.reduceLE, reduceIte, Nat.add_zero, Nat.zero_add, Nat.mul_one] at hx; subst hx; refine ⟨_, rfl, ?_⟩
    refine wSeq (wSeqr ?_); refine (fun x hx => ?_); simp only [go_sem, Nat.reduceAdd, Nat.reduceMul, Nat.reduceSub, Nat.reduceEqDiff, Nat.reduceLT, Nat.reduceLeDiff, Int.reduceEq, Int.reduceLT, Int.reduceLE, reduceIte, Nat.add_zero, Nat.zero_add, Nat.mul_one] at hx; subst hx; refine ⟨_, rfl, ?_⟩
    refine wIfF (by simp only [go_sem, Nat.reduceAdd, Nat.reduceMul, Nat.reduceSub, Nat.reduceEqDiff, Nat.reduceLT, Nat.reduceLeDiff, Int.reduceEq, Int.reduceLT, Int.reduceLE, reduceIte, Nat.add_zero, Nat.zero_add, Nat.mul_one, not_true_eq_false, decide_false]) ?_
    refine wSkip ?_
    refine wSeq (wSeqr ?_); refine (fun x hx => ?_); simp only [go_sem, Nat.reduceAdd, Nat.reduceMul, Nat.reduceSub, Nat.reduceEqDiff, Nat.reduceLT, Nat.reduceLeDiff, Int.reduceEq, Int.reduceLT, Int.reduceLE, reduceIte, Nat.add_zero, Nat.zero_add, Nat.mul_one] at hx; subst hx; refine ⟨_, rfl, ?_⟩
    refine wBlock (wLoop (fun k s => ∃ j, j + k = l.length ∧ s.1 0 = i64L l ∧ s.1 1 = i64L l ∧ s.1 5 = .v (.int .i64 (j : Nat))) (fun k s hI => ?_) l.length _ ?_)
    · obtain ⟨e, H⟩ := s
      obtain ⟨j, hj, h0, h1, h5⟩ := hI
      simp only at h0 h1 h5
      refine wSeq (wSeqr ?_); refine (fun x hx => ?_); simp only [go_sem, Nat.reduceAdd, Nat.reduceMul, Nat.reduceSub, Nat.reduceEqDiff, Nat.reduceLT, Nat.reduceLeDiff, Int.reduceEq, Int.reduceLT, Int.reduceLE, reduceIte, Nat.add_zero, Nat.zero_add, Nat.mul_one, h0, h5] at hx; subst hx; refine ⟨_, rfl, ?_⟩
      refine wIf (fun y hy => ?_); simp only [go_sem, Nat.reduceAdd, Nat.reduceMul, Nat.reduceSub, Nat.reduceEqDiff, Nat.reduceLT, Nat.reduceLeDiff, Int.reduceEq, Int.reduceLT, Int.reduceLE, reduceIte, Nat.add_zero, Nat.zero_add, Nat.mul_one] at hy; subst hy; refine ⟨_, rfl, fun ht => ?_, fun hf => ?_⟩
      · simp only [decide_eq_true_eq] at ht
        have hla : j < l.length := by omega
        have ga := get_i64 hla
        refine wSkip (wSeq (wBlock (wSeqr ?_))); refine (fun x hx => ?_); simp only [go_sem, Nat.reduceAdd, Nat.reduceMul, Nat.reduceSub, Nat.reduceEqDiff, Nat.reduceLT, Nat.reduceLeDiff, Int.reduceEq, Int.reduceLT, Int.reduceLE, reduceIte, Nat.add_zero, Nat.zero_add, Nat.mul_one, h0, h1, h5, ga, i64L, icell, not_true_eq_false, decide_false] at hx; subst hx; refine ⟨_, rfl, ?_⟩
        refine wIfF (by simp only [go_sem, Nat.reduceAdd, Nat.reduceMul, Nat.reduceSub, Nat.reduceEqDiff, Nat.reduceLT, Nat.reduceLeDiff, Int.reduceEq, Int.reduceLT, Int.reduceLE, reduceIte, Nat.add_zero, Nat.zero_add, Nat.mul_one, not_true_eq_false, decide_false, Bool.not_true]) ?_
        refine wSkip ?_
        refine wReg (fun x hx => ?_); simp only [go_sem, Nat.reduceAdd, Nat.reduceMul, Nat.reduceSub, Nat.reduceEqDiff, Nat.reduceLT, Nat.reduceLeDiff, Int.reduceEq, Int.reduceLT, Int.reduceLE, reduceIte, Nat.add_zero, Nat.zero_add, Nat.mul_one, h5, wrap_succ (show j < 9223372036854775807 by omega)] at hx; subst hx; refine ⟨_, rfl, ?_⟩
        refine ⟨k - 1, by omega, j + 1, by omega, ?_⟩
        exact ⟨by simp only [upd_eq, Nat.reduceEqDiff, if_false, h0], by simp only [upd_eq, Nat.reduceEqDiff, if_false, h1], by simp only [upd_eq, Nat.reduceEqDiff, if_true]⟩
      · simp only [decide_eq_false_iff_not] at hf
        refine wExit ?_; simp only [thenQ, blockQ, reduceIte, Nat.reduceEqDiff]
        refine wSeqr (fun x hx => ?_); simp only [go_sem, Nat.reduceAdd, Nat.reduceMul, Nat.reduceSub, Nat.reduceEqDiff, Nat.reduceLT, Nat.reduceLeDiff, Int.reduceEq, Int.reduceLT, Int.reduceLE, reduceIte, Nat.add_zero, Nat.zero_add, Nat.mul_one] at hx; subst hx; refine ⟨_, rfl, ?_⟩
        refine wRet ?_; (try simp only [thenQ, blockQ]); refine ends_ret rfl ?_
        exact ⟨rfl, rfl⟩
    · exact ⟨0, by omega, rfl, rfl, rfl⟩
  exact fun H => call_of Try.func46 rfl oke46 rfl (by omega) (mapM_two ((i64L_fz 10 l).1 H) ((i64L_fz 10 l).1 H)) key (.inl rfl)
theorem eqf22 (c : List AV) (q : Nat) (hq : q ≤ 11) (hc : ShC Try.prog (upTo 1048576) q 41 c) : ∀ H, call Try.prog cfg0 0 22 [.agg c, .agg c] H = some (.v (.bool true), H) := by
  have hfz := shC_fz q 11 41 c hq hc
  have hp0 : ∀ a b, cfg0.pol a b = 0 := fun _ _ => rfl
  obtain ⟨x0f0, x0f1, x1, rfl, rx0f0, rx0f1, rx1, ⟨qk0, qh0, k0⟩⟩ := iv41 hc
  have hc0 := eqf45 _ qk0 (by omega) k0
  have hc1 := eqf46 x1 (Nat.le_trans rx1.2 (by omega))
  have key : pure Try.prog cfg0 22 Try.f22 [.agg [.v (.int .i64 x0f0), bytesL x0f1, i64L x1], .agg [.v (.int .i64 x0f0), bytesL x0f1, i64L x1]] = some (.v (.bool true), true) := by
    refine pure_wp rfl rfl ?_
    refine wSeqr (fun x hx => ?_); simp only [go_sem, Nat.reduceAdd, Nat.reduceMul, Nat.reduceSub, Nat.reduceEqDiff, Nat.reduceLT, Nat.reduceLeDiff, Int.reduceEq, Int.reduceLT, Int.reduceLE, reduceIte, Nat.add_zero, Nat.zero_add, Nat.mul_one] at hx; subst hx; refine ⟨_, rfl, ?_⟩
    refine wSeq (wSeqr ?_); refine (fun x hx => ?_); simp only [go_sem, Nat.reduceAdd, Nat.reduceMul, Nat.reduceSub, Nat.reduceEqDiff, Nat.reduceLT, Nat.reduceLeDiff, Int.reduceEq, Int.reduceLT, Int.reduceLE, reduceIte, Nat.add_zero, Nat.zero_add, Nat.mul_one, hp0, hc0, hc1, not_true_eq_false, decide_false, beq_self_eq_true, Bool.not_true] at hx; subst hx; refine ⟨_, rfl, ?_⟩
    refine wIfF (by simp only [go_sem, Nat.reduceAdd, Nat.reduceMul, Nat.reduceSub, Nat.reduceEqDiff, Nat.reduceLT, Nat.reduceLeDiff, Int.reduceEq, Int.reduceLT, Int.reduceLE, reduceIte, Nat.add_zero, Nat.zero_add, Nat.mul_one, not_true_eq_false, decide_false, Bool.not_true]) ?_
    refine wSkip ?_
    refine wSeq (wSeqr ?_); refine (fun x hx => ?_); simp only [go_sem, Nat.reduceAdd, Nat.reduceMul, Nat.reduceSub, Nat.reduceEqDiff, Nat.reduceLT, Nat.reduceLeDiff, Int.reduceEq, Int.reduceLT, Int.reduceLE, reduceIte, Nat.add_zero, Nat.zero_add, Nat.mul_one, hp0, hc0, hc1, not_true_eq_false, decide_false, beq_self_eq_true, Bool.not_true] at hx; subst hx; refine ⟨_, rfl, ?_⟩
    refine wIfF (by simp only [go_sem, Nat.reduceAdd, Nat.reduceMul, Nat.reduceSub, Nat.reduceEqDiff, Nat.reduceLT, Nat.reduceLeDiff, Int.reduceEq, Int.reduceLT, Int.reduceLE, reduceIte, Nat.add_zero, Nat.zero_add, Nat.mul_one, not_true_eq_false, decide_false, Bool.not_true]) ?_
    refine wSkip ?_
    refine wSeqr (fun x hx => ?_); simp only [go_sem, Nat.reduceAdd, Nat.reduceMul, Nat.reduceSub, Nat.reduceEqDiff, Nat.reduceLT, Nat.reduceLeDiff, Int.reduceEq, Int.reduceLT, Int.reduceLE, reduceIte, Nat.add_zero, Nat.zero_add, Nat.mul_one] at hx; subst hx; refine ⟨_, rfl, ?_⟩
    refine wRet ?_; (try simp only [thenQ, blockQ]); refine ends_ret rfl ?_
    exact ⟨rfl, rfl⟩
  exact fun H => call_of Try.func22 rfl oke22 rfl (by omega) (mapM_two ((Fz.agg hfz).1 H) ((Fz.agg hfz).1 H)) key (.inl rfl)
theorem ok13 : fnOk Try.prog cfg0 13 Try.f13 = true := by kernel_rfl
theorem len51 {B : Nat → Nat → Prop} {n : Nat} {c : List AV} (h : ShC Try.prog B n 51 c) : c.length = 8 := by
  obtain ⟨x0, x1, x2, x3, x4, x5, x6f0, x6f1, rfl, -⟩ := iv51 h
  rfl
theorem szf13 (ys : List (List AV)) (n : Int) (q : Nat) (hq : q ≤ 10) (hl : reach ys.length 96) (hc : ∀ c ∈ ys, ShC Try.prog reach q 51 c) (hn : 0 ≤ n ∧ n ≤ 1048576) : ∃ m : Int, -1 ≤ m ∧ m ≤ n ∧ (0 ≤ m → ys.length ≤ 1048576 ∧ ∀ c ∈ ys, ∀ x ∈ c, leN 1048576 12 x) ∧ ∀ H, call Try.prog cfg0 0 13 [.lst false ys, .v (.int .i64 n)] H = some (.v (.int .i64 m), H) := by
  have hfz : Fz 12 (.lst false ys) := Fz.lst fun c hc' x hx => shC_fz q 11 51 c (by omega) (hc c hc') x hx
  have hp0 : ∀ a b, cfg0.pol a b = 0 := fun _ _ => rfl
  have hl' : ys.length * 96 ≤ 140737488351232 := hl
  have hw : IntKind.wrap .i64 (n - ys.length) = n - ys.length := wrap_i64 (by omega) (by omega)
  have key : ∃ v cl, ((∃ m : Int, v = .v (.int .i64 m) ∧ -1 ≤ m ∧ m ≤ n ∧ (0 ≤ m → ys.length ≤ 1048576 ∧ ∀ c ∈ ys, ∀ x ∈ c, leN 1048576 12 x)) ∧ cl = true) ∧ pure Try.prog cfg0 13 Try.f13 [.lst false ys, .v (.int .i64 n)] = some (v, cl) := by
    refine pure_ex rfl rfl ?_
    refine wSeqr (fun x hx => ?_); simp only [go_sem, Nat.reduceAdd, Nat.reduceMul, Nat.reduceSub, Nat.reduceEqDiff, Nat.reduceLT, Nat.reduceLeDiff, Int.reduceEq, Int.reduceLT, Int.reduceLE, reduceIte, Nat.add_zero, Nat.zero_add, Nat.mul_one] at hx; subst hx; refine ⟨_, rfl, ?_⟩
    refine wSeqr (fun x hx => ?_); simp only [go_sem, Nat.reduceAdd, Nat.reduceMul, Nat.reduceSub, Nat.reduceEqDiff, Nat.reduceLT, Nat.reduceLeDiff, Int.reduceEq, Int.reduceLT, Int.reduceLE, reduceIte, Nat.add_zero, Nat.zero_add, Nat.mul_one, hw] at hx; subst hx; refine ⟨_, rfl, ?_⟩
    refine wSeq (wSeqr ?_); refine (fun x hx => ?_); simp only [go_sem, Nat.reduceAdd, Nat.reduceMul, Nat.reduceSub, Nat.reduceEqDiff, Nat.reduceLT, Nat.reduceLeDiff, Int.reduceEq, Int.reduceLT, Int.reduceLE, reduceIte, Nat.add_zero, Nat.zero_add, Nat.mul_one] at hx; subst hx; refine ⟨_, rfl, ?_⟩
    refine wIf (fun y hy => ?_); simp only [go_sem, Nat.reduceAdd, Nat.reduceMul, Nat.reduceSub, Nat.reduceEqDiff, Nat.reduceLT, Nat.reduceLeDiff, Int.reduceEq, Int.reduceLT, Int.reduceLE, reduceIte, Nat.add_zero, Nat.zero_add, Nat.mul_one] at hy; subst hy; refine ⟨_, rfl, fun ht => ?_, fun hf => ?_⟩
    · simp only [decide_eq_true_eq] at ht
      refine wSeqr (fun x hx => ?_); simp only [go_sem, Nat.reduceAdd, Nat.reduceMul, Nat.reduceSub, Nat.reduceEqDiff, Nat.reduceLT, Nat.reduceLeDiff, Int.reduceEq, Int.reduceLT, Int.reduceLE, reduceIte, Nat.add_zero, Nat.zero_add, Nat.mul_one] at hx; subst hx; refine ⟨_, rfl, ?_⟩
      refine wRet ?_; (try simp only [thenQ, blockQ]); refine ends_ret rfl ?_
      exact ⟨_, _, ⟨⟨-1, rfl, by omega, by omega, by omega⟩, rfl⟩, rfl, rfl⟩
    simp only [decide_eq_false_iff_not] at hf
    refine wSkip ?_
    refine wSeq (wSeqr ?_); refine (fun x hx => ?_); simp only [go_sem, Nat.reduceAdd, Nat.reduceMul, Nat.reduceSub, Nat.reduceEqDiff, Nat.reduceLT, Nat.reduceLeDiff, Int.reduceEq, Int.reduceLT, Int.reduceLE, reduceIte, Nat.add_zero, Nat.zero_add, Nat.mul_one] at hx; subst hx; refine ⟨_, rfl, ?_⟩
    refine wBlock (wLoop (fun k s => ∃ (j : Nat) (m : Int), j + k = ys.length ∧ s.1 0 = .lst false ys ∧ s.1 1 = .v (.int .i64 m) ∧ s.1 5 = .v (.int .i64 (j : Nat)) ∧ 0 ≤ m ∧ m ≤ n ∧ ∀ (i : Nat) c, i < j → ys[i]? = some c → ∀ x ∈ c, leN 1048576 12 x) (fun k s hI => ?_) ys.length _ ?_)
    · obtain ⟨e, H⟩ := s
      obtain ⟨j, m, hj, h0, h1, h5, hm0, hmn, hle⟩ := hI
      simp only at h0 h1 h5
      refine wSeq (wSeqr ?_); refine (fun x hx => ?_); simp only [go_sem, Nat.reduceAdd, Nat.reduceMul, Nat.reduceSub, Nat.reduceEqDiff, Nat.reduceLT, Nat.reduceLeDiff, Int.reduceEq, Int.reduceLT, Int.reduceLE, reduceIte, Nat.add_zero, Nat.zero_add, Nat.mul_one, h0, h5] at hx; subst hx; refine ⟨_, rfl, ?_⟩
      refine wIf (fun y hy => ?_); simp only [go_sem, Nat.reduceAdd, Nat.reduceMul, Nat.reduceSub, Nat.reduceEqDiff, Nat.reduceLT, Nat.reduceLeDiff, Int.reduceEq, Int.reduceLT, Int.reduceLE, reduceIte, Nat.add_zero, Nat.zero_add, Nat.mul_one] at hy; subst hy; refine ⟨_, rfl, fun ht => ?_, fun hf => ?_⟩
      · simp only [decide_eq_true_eq] at ht
        have hla : j < ys.length := by omega
        obtain ⟨c, hg⟩ : ∃ c, ys[j]? = some c := ⟨ys[j], by simp [hla]⟩
        have hcs := hc c (List.mem_of_getElem? hg)
        have hcl := len51 hcs
        have htk : c.take 8 = c := List.take_of_length_le (by omega)
        obtain ⟨m2, p1, p2, p3, hcall⟩ := szf23 c m q (by omega) hcs ⟨hm0, by omega⟩
        refine wSkip (wSeq (wBlock (wSeqr ?_))); refine (fun x hx => ?_); simp only [go_sem, Nat.reduceAdd, Nat.reduceMul, Nat.reduceSub, Nat.reduceEqDiff, Nat.reduceLT, Nat.reduceLeDiff, Int.reduceEq, Int.reduceLT, Int.reduceLE, reduceIte, Nat.add_zero, Nat.zero_add, Nat.mul_one, h0, h1, h5, hg, hcl, htk, hp0, hcall] at hx; subst hx; refine ⟨_, rfl, ?_⟩
        refine wSeqr (fun x hx => ?_); simp only [go_sem, Nat.reduceAdd, Nat.reduceMul, Nat.reduceSub, Nat.reduceEqDiff, Nat.reduceLT, Nat.reduceLeDiff, Int.reduceEq, Int.reduceLT, Int.reduceLE, reduceIte, Nat.add_zero, Nat.zero_add, Nat.mul_one] at hx; subst hx; refine ⟨_, rfl, ?_⟩
        refine wIf (fun y hy => ?_); simp only [go_sem, Nat.reduceAdd, Nat.reduceMul, Nat.reduceSub, Nat.reduceEqDiff, Nat.reduceLT, Nat.reduceLeDiff, Int.reduceEq, Int.reduceLT, Int.reduceLE, reduceIte, Nat.add_zero, Nat.zero_add, Nat.mul_one] at hy; subst hy; refine ⟨_, rfl, fun ht => ?_, fun hf => ?_⟩
        · simp only [decide_eq_true_eq] at ht
          refine wSeqr (fun x hx => ?_); simp only [go_sem, Nat.reduceAdd, Nat.reduceMul, Nat.reduceSub, Nat.reduceEqDiff, Nat.reduceLT, Nat.reduceLeDiff, Int.reduceEq, Int.reduceLT, Int.reduceLE, reduceIte, Nat.add_zero, Nat.zero_add, Nat.mul_one] at hx; subst hx; refine ⟨_, rfl, ?_⟩
          refine wRet ?_; (try simp only [thenQ, blockQ]); refine ends_ret rfl ?_
          exact ⟨_, _, ⟨⟨-1, rfl, by omega, by omega, by omega⟩, rfl⟩, rfl, rfl⟩
        · simp only [decide_eq_false_iff_not] at hf
          refine wSkip ?_
          refine wReg (fun x hx => ?_); simp only [go_sem, Nat.reduceAdd, Nat.reduceMul, Nat.reduceSub, Nat.reduceEqDiff, Nat.reduceLT, Nat.reduceLeDiff, Int.reduceEq, Int.reduceLT, Int.reduceLE, reduceIte, Nat.add_zero, Nat.zero_add, Nat.mul_one, h5, wrap_succ (show j < 9223372036854775807 by omega)] at hx; subst hx; refine ⟨_, rfl, ?_⟩
          refine ⟨k - 1, by omega, j + 1, m2, by omega, ?_⟩
          refine ⟨by simp only [upd_eq, Nat.reduceEqDiff, if_false, h0], by simp only [upd_eq, Nat.reduceEqDiff, if_true, if_false], by simp only [upd_eq, Nat.reduceEqDiff, if_true], by omega, by omega, fun i c' hi hc' => ?_⟩
          by_cases hij : i = j
          · subst hij
            rw [hg] at hc'; simp only [Option.some.injEq] at hc'; subst hc'
            exact p3 (by omega)
          · exact hle i c' (by omega) hc'
      · simp only [decide_eq_false_iff_not] at hf
        have hj' : j = ys.length := by omega
        refine wExit ?_; simp only [thenQ, blockQ, reduceIte, Nat.reduceEqDiff]
        refine wSeqr (fun x hx => ?_); simp only [go_sem, Nat.reduceAdd, Nat.reduceMul, Nat.reduceSub, Nat.reduceEqDiff, Nat.reduceLT, Nat.reduceLeDiff, Int.reduceEq, Int.reduceLT, Int.reduceLE, reduceIte, Nat.add_zero, Nat.zero_add, Nat.mul_one, h1] at hx; subst hx; refine ⟨_, rfl, ?_⟩
        refine wRet ?_; (try simp only [thenQ, blockQ]); refine ends_ret rfl ?_
        refine ⟨_, _, ⟨⟨m, rfl, by omega, by omega, fun _ => ⟨by omega, fun c hc' => ?_⟩⟩, rfl⟩, rfl, rfl⟩
        obtain ⟨i, hi, rfl⟩ := List.getElem_of_mem hc'
        exact hle i _ (by omega) (by simp [hi])
    · exact ⟨0, _, by omega, rfl, rfl, rfl, by omega, by omega, fun i c h => absurd h (Nat.not_lt_zero _)⟩
  obtain ⟨v, cl, ⟨⟨m, rfl, h1, h2, h3⟩, rfl⟩, hp⟩ := key
  exact ⟨m, h1, h2, h3, fun H => call_of Try.func13 rfl ok13 rfl (by omega) (mapM_two (hfz.1 H) rfl) hp (.inl rfl)⟩
theorem okt15 : fnOk Try.prog cfg0 15 Try.f15 = true := by kernel_rfl
theorem all51 {B : Nat → Nat → Prop} {n : Nat} {c : List AV} (h : ShC Try.prog B n 51 c) : c.all okc = true := by
  obtain ⟨x0, x1, x2, x3, x4, x5, x6f0, x6f1, rfl, -⟩ := iv51 h
  rfl
theorem to15 (ys : List (List AV)) (q : Nat) (hq : q ≤ 10) (hl : ys.length ≤ 1048576) (hc : ∀ c ∈ ys, ShC Try.prog (upTo 1048576) q 51 c) : ∀ H, call Try.prog cfg0 0 15 [.lst false ys] H = some (.lst false ys, H) := by
  have hz0 : ∀ c ∈ ys, ∀ x ∈ c, Fz 11 x := fun c hc' x hx => shC_fz q 11 51 c (by omega) (hc c hc') x hx
  have hfz : Fz 12 (.lst false ys) := Fz.lst hz0
  have hnr := hfz.2
  have hp0 : ∀ a b, cfg0.pol a b = 0 := fun _ _ => rfl
  have hls : ∀ c ∈ ys, c.length = 8 := fun c hc' => len51 (hc c hc')
  have key : ∃ v cl, v = AV.lst false ys ∧ pure Try.prog cfg0 15 Try.f15 [.lst false ys] = some (v, cl) := by
    refine pure_ex rfl rfl ?_
    refine wSeqr (fun x hx => ?_); simp only [go_sem, Nat.reduceAdd, Nat.reduceMul, Nat.reduceSub, Nat.reduceEqDiff, Nat.reduceLT, Nat.reduceLeDiff, Int.reduceEq, Int.reduceLT, Int.reduceLE, reduceIte, Nat.add_zero, Nat.zero_add, Nat.mul_one] at hx; subst hx; refine ⟨_, rfl, ?_⟩
    have hr := roomy_of (n := ys.length) (b := 96) (by omega) (by omega)
    refine wSeqr (fun x hx => ?_); simp only [go_sem, Nat.reduceAdd, Nat.reduceMul, Nat.reduceSub, Nat.reduceEqDiff, Nat.reduceLT, Nat.reduceLeDiff, Int.reduceEq, Int.reduceLT, Int.reduceLE, reduceIte, Nat.add_zero, Nat.zero_add, Nat.mul_one, hr] at hx; subst hx; refine ⟨_, rfl, ?_⟩
    refine wSeq (wSeqr ?_); refine (fun x hx => ?_); simp only [go_sem, Nat.reduceAdd, Nat.reduceMul, Nat.reduceSub, Nat.reduceEqDiff, Nat.reduceLT, Nat.reduceLeDiff, Int.reduceEq, Int.reduceLT, Int.reduceLE, reduceIte, Nat.add_zero, Nat.zero_add, Nat.mul_one] at hx; subst hx; refine ⟨_, rfl, ?_⟩
    refine wBlock (wLoop (fun k s => ∃ j, j + k = ys.length ∧ s.1 0 = .lst false ys ∧ s.1 4 = .v (.int .i64 (j : Nat)) ∧ s.1 3 = .sl 0 8 0 ys.length ∧ s.2.h 0 = some ((ys.take j).flatten ++ zeros (ys.length - j) [.v (.int .i64 0), .v (.int .i64 0), .v (.int .i64 0), .v (.int .i64 0), .v (.slice none 0 0), .v (.int .i64 0), .v (.int .i64 0), .v (.slice none 0 0)])) (fun k s hI => ?_) ys.length _ ?_)
    · obtain ⟨e, H⟩ := s
      obtain ⟨j, hj, h0, h4, h3, hh⟩ := hI
      simp only at h0 h4 h3 hh
      refine wSeq (wSeqr ?_); refine (fun x hx => ?_); simp only [go_sem, Nat.reduceAdd, Nat.reduceMul, Nat.reduceSub, Nat.reduceEqDiff, Nat.reduceLT, Nat.reduceLeDiff, Int.reduceEq, Int.reduceLT, Int.reduceLE, reduceIte, Nat.add_zero, Nat.zero_add, Nat.mul_one, h0, h4] at hx; subst hx; refine ⟨_, rfl, ?_⟩
      refine wIf (fun y hy => ?_); simp only [go_sem, Nat.reduceAdd, Nat.reduceMul, Nat.reduceSub, Nat.reduceEqDiff, Nat.reduceLT, Nat.reduceLeDiff, Int.reduceEq, Int.reduceLT, Int.reduceLE, reduceIte, Nat.add_zero, Nat.zero_add, Nat.mul_one] at hy; subst hy; refine ⟨_, rfl, fun ht => ?_, fun hf => ?_⟩
      · simp only [decide_eq_true_eq] at ht
        have hlt : j < ys.length := by omega
        obtain ⟨c, hg⟩ : ∃ c, ys[j]? = some c := ⟨ys[j], by simp [hlt]⟩
        have hcs := hc c (List.mem_of_getElem? hg)
        have hcl := hls c (List.mem_of_getElem? hg)
        have htk : c.take 8 = c := List.take_of_length_le (by omega)
        have hall := all51 hcs
        have hcall := to25 c q (by omega) hcs
        have hlen := rows_len hls (z := [.v (.int .i64 0), .v (.int .i64 0), .v (.int .i64 0), .v (.int .i64 0), .v (.slice none 0 0), .v (.int .i64 0), .v (.int .i64 0), .v (.slice none 0 0)]) rfl (Nat.le_of_lt hlt)
        have hle : j * 8 + 8 ≤ ys.length * 8 := by omega
        have hfill := fill_rows hls (z := [.v (.int .i64 0), .v (.int .i64 0), .v (.int .i64 0), .v (.int .i64 0), .v (.slice none 0 0), .v (.int .i64 0), .v (.int .i64 0), .v (.slice none 0 0)]) rfl hg
        refine wSkip (wSeq (wBlock (wReg ?_))); refine (fun x hx => ?_); simp only [go_sem, Nat.reduceAdd, Nat.reduceMul, Nat.reduceSub, Nat.reduceEqDiff, Nat.reduceLT, Nat.reduceLeDiff, Int.reduceEq, Int.reduceLT, Int.reduceLE, reduceIte, Nat.add_zero, Nat.zero_add, Nat.mul_one, h0, h3, h4, hg, hcl, htk, hp0, hcall, hh, hlt, hlen, Option.isSome_some, hall, hle, hfill] at hx; subst hx; refine ⟨_, rfl, ?_⟩
        refine wReg (fun x hx => ?_); simp only [go_sem, Nat.reduceAdd, Nat.reduceMul, Nat.reduceSub, Nat.reduceEqDiff, Nat.reduceLT, Nat.reduceLeDiff, Int.reduceEq, Int.reduceLT, Int.reduceLE, reduceIte, Nat.add_zero, Nat.zero_add, Nat.mul_one, h4, wrap_succ (show j < 9223372036854775807 by omega)] at hx; subst hx; refine ⟨_, rfl, ?_⟩
        refine ⟨k - 1, by omega, j + 1, by omega, ?_⟩
        refine ⟨by simp only [upd_eq, Nat.reduceEqDiff, if_false, h0], by simp only [upd_eq, Nat.reduceEqDiff, if_true], by simp only [upd_eq, Nat.reduceEqDiff, if_false, h3], ?_⟩
        simp only [Hp.set_h, if_true]
      · simp only [decide_eq_false_iff_not] at hf
        have hj' : j = ys.length := by omega
        subst hj'
        refine wExit ?_; simp only [thenQ, blockQ, reduceIte, Nat.reduceEqDiff]
        refine wSeqr (fun x hx => ?_); simp only [go_sem, Nat.reduceAdd, Nat.reduceMul, Nat.reduceSub, Nat.reduceEqDiff, Nat.reduceLT, Nat.reduceLeDiff, Int.reduceEq, Int.reduceLT, Int.reduceLE, reduceIte, Nat.add_zero, Nat.zero_add, Nat.mul_one, h3] at hx; subst hx; refine ⟨_, rfl, ?_⟩
        refine wRet (ends_ret rfl ?_)
        have hh' : H.h 0 = some ys.flatten := by rw [hh]; simp [zeros]
        simp only [tupOf, upd_eq, Nat.reduceEqDiff, if_true]
        exact ⟨_, _, rfl, deep_sl hh' (by omega) hls rfl (fun c hc' x hx => (hz0 c hc' x hx).1 _), rfl⟩
    · refine ⟨0, by omega, rfl, rfl, rfl, ?_⟩
      simp only [Hp.new_h, nil_g, if_true, Nat.sub_zero, List.take_zero, List.flatten_nil, List.nil_append]
  obtain ⟨v, cl, rfl, hp⟩ := key
  exact fun H => call_of Try.func15 rfl okt15 rfl (by omega) (by simp only [List.mapM_cons, List.mapM_nil, depthD, hfz.1 H]; rfl) hp (.inr (by simp only [List.any_cons, List.any_nil, depthD, hnr]; rfl))
theorem oke17 : fnOk Try.prog cfg0 17 Try.f17 = true := by kernel_rfl
theorem eqf17 (l : List (List AV)) (q : Nat) (hq : q ≤ 10) (hl : l.length ≤ 1048576) (hc : ∀ c ∈ l, ShC Try.prog (upTo 1048576) q 51 c) : ∀ H, call Try.prog cfg0 0 17 [.lst false l, .lst false l] H = some (.v (.bool true), H) := by
  have hz0 : ∀ c ∈ l, ∀ x ∈ c, Fz 11 x := fun c hc' x hx => shC_fz q 11 51 c (by omega) (hc c hc') x hx
  have hfz : Fz 12 (.lst false l) := Fz.lst hz0
  have hp0 : ∀ a b, cfg0.pol a b = 0 := fun _ _ => rfl
  have key : pure Try.prog cfg0 17 Try.f17 [.lst false l, .lst false l] = some (.v (.bool true), true) := by
    refine pure_wp rfl rfl ?_
    refine wSeqr (fun x hx => ?_); simp only [go_sem, Nat.reduceAdd, Nat.reduceMul, Nat.reduceSub, Nat.reduceEqDiff, Nat.reduceLT, Nat.reduceLeDiff, Int.reduceEq, Int.reduceLT, Int.reduceLE, reduceIte, Nat.add_zero, Nat.zero_add, Nat.mul_one] at hx; subst hx; refine ⟨_, rfl, ?_⟩
    refine wSeq (wSeqr ?_); refine (fun x hx => ?_); simp only [go_sem, Nat.reduceAdd, Nat.reduceMul, Nat.reduceSub, Nat.reduceEqDiff, Nat.reduceLT, Nat.reduceLeDiff, Int.reduceEq, Int.reduceLT, Int.reduceLE, reduceIte, Nat.add_zero, Nat.zero_add, Nat.mul_one] at hx; subst hx; refine ⟨_, rfl, ?_⟩
    refine wIfF (by simp only [go_sem, Nat.reduceAdd, Nat.reduceMul, Nat.reduceSub, Nat.reduceEqDiff, Nat.reduceLT, Nat.reduceLeDiff, Int.reduceEq, Int.reduceLT, Int.reduceLE, reduceIte, Nat.add_zero, Nat.zero_add, Nat.mul_one, not_true_eq_false, decide_false]) ?_
    refine wSkip ?_
    refine wSeq (wSeqr ?_); refine (fun x hx => ?_); simp only [go_sem, Nat.reduceAdd, Nat.reduceMul, Nat.reduceSub, Nat.reduceEqDiff, Nat.reduceLT, Nat.reduceLeDiff, Int.reduceEq, Int.reduceLT, Int.reduceLE, reduceIte, Nat.add_zero, Nat.zero_add, Nat.mul_one] at hx; subst hx; refine ⟨_, rfl, ?_⟩
    refine wBlock (wLoop (fun k s => ∃ j, j + k = l.length ∧ s.1 0 = .lst false l ∧ s.1 1 = .lst false l ∧ s.1 5 = .v (.int .i64 (j : Nat))) (fun k s hI => ?_) l.length _ ?_)
    · obtain ⟨e, H⟩ := s
      obtain ⟨j, hj, h0, h1, h5⟩ := hI
      simp only at h0 h1 h5
      refine wSeq (wSeqr ?_); refine (fun x hx => ?_); simp only [go_sem, Nat.reduceAdd, Nat.reduceMul, Nat.reduceSub, Nat.reduceEqDiff, Nat.reduceLT, Nat.reduceLeDiff, Int.reduceEq, Int.reduceLT, Int.reduceLE, reduceIte, Nat.add_zero, Nat.zero_add, Nat.mul_one, h0, h5] at hx; subst hx; refine ⟨_, rfl, ?_⟩
      refine wIf (fun y hy => ?_); simp only [go_sem, Nat.reduceAdd, Nat.reduceMul, Nat.reduceSub, Nat.reduceEqDiff, Nat.reduceLT, Nat.reduceLeDiff, Int.reduceEq, Int.reduceLT, Int.reduceLE, reduceIte, Nat.add_zero, Nat.zero_add, Nat.mul_one] at hy; subst hy; refine ⟨_, rfl, fun ht => ?_, fun hf => ?_⟩
      · simp only [decide_eq_true_eq] at ht
        have hla : j < l.length := by omega
        obtain ⟨c, hg⟩ : ∃ c, l[j]? = some c := ⟨l[j], by simp [hla]⟩
        have hcs := hc c (List.mem_of_getElem? hg)
        have hcl := len51 hcs
        have htk : c.take 8 = c := List.take_of_length_le (by omega)
        have hcall := eqf27 c q (by omega) hcs
        refine wSkip (wSeq (wBlock (wSeqr ?_))); refine (fun x hx => ?_); simp only [go_sem, Nat.reduceAdd, Nat.reduceMul, Nat.reduceSub, Nat.reduceEqDiff, Nat.reduceLT, Nat.reduceLeDiff, Int.reduceEq, Int.reduceLT, Int.reduceLE, reduceIte, Nat.add_zero, Nat.zero_add, Nat.mul_one, h0, h1, h5, hg, hcl, htk, hp0, hcall, Bool.not_true, not_true_eq_false, decide_false] at hx; subst hx; refine ⟨_, rfl, ?_⟩
        refine wIfF (by simp only [go_sem, Nat.reduceAdd, Nat.reduceMul, Nat.reduceSub, Nat.reduceEqDiff, Nat.reduceLT, Nat.reduceLeDiff, Int.reduceEq, Int.reduceLT, Int.reduceLE, reduceIte, Nat.add_zero, Nat.zero_add, Nat.mul_one, not_true_eq_false, decide_false, Bool.not_true]) ?_
        refine wSkip ?_
        refine wReg (fun x hx => ?_); simp only [go_sem, Nat.reduceAdd, Nat.reduceMul, Nat.reduceSub, Nat.reduceEqDiff, Nat.reduceLT, Nat.reduceLeDiff, Int.reduceEq, Int.reduceLT, Int.reduceLE, reduceIte, Nat.add_zero, Nat.zero_add, Nat.mul_one, h5, wrap_succ (show j < 9223372036854775807 by omega)] at hx; subst hx; refine ⟨_, rfl, ?_⟩
        refine ⟨k - 1, by omega, j + 1, by omega, ?_⟩
        exact ⟨by simp only [upd_eq, Nat.reduceEqDiff, if_false, h0], by simp only [upd_eq, Nat.reduceEqDiff, if_false, h1], by simp only [upd_eq, Nat.reduceEqDiff, if_true]⟩
      · simp only [decide_eq_false_iff_not] at hf
        refine wExit ?_; simp only [thenQ, blockQ, reduceIte, Nat.reduceEqDiff]
        refine wSeqr (fun x hx => ?_); simp only [go_sem, Nat.reduceAdd, Nat.reduceMul, Nat.reduceSub, Nat.reduceEqDiff, Nat.reduceLT, Nat.reduceLeDiff, Int.reduceEq, Int.reduceLT, Int.reduceLE, reduceIte, Nat.add_zero, Nat.zero_add, Nat.mul_one] at hx; subst hx; refine ⟨_, rfl, ?_⟩
        refine wRet ?_; (try simp only [thenQ, blockQ]); refine ends_ret rfl ?_
        exact ⟨rfl, rfl⟩
    · exact ⟨0, by omega, rfl, rfl, rfl⟩
  exact fun H => call_of Try.func17 rfl oke17 rfl (by omega) (mapM_two (hfz.1 H) (hfz.1 H)) key (.inl rfl)
end
end Go.Proofs.Ytbjcffiaapobpaa
