/- Contracts: the three draws of the law. -/
import Derived.Test.YtepnlhjafgomgaaDoorV6
namespace Go.Proofs.YtepnlhjafgomgaaDoor
open Go Go.RowKit Go.Proofs.YtepnlhjafgomgaaDoor.Eng
set_option linter.unusedSimpArgs false
set_option linter.unusedVariables false
set_option maxRecDepth 100000
set_option maxHeartbeats 2000000
noncomputable section
theorem bs_10 (d a b c e f g h i j k : AV) : bs 10 [d] [(0, a), (1, b), (2, c), (3, e), (4, f), (5, g), (6, h), (7, i), (8, j), (9, k)] = if okc a = true ∧ okc b = true ∧ okc c = true ∧ okc e = true ∧ okc f = true ∧ okc g = true ∧ okc h = true ∧ okc i = true ∧ okc j = true ∧ okc k = true then some ([a, b, c, e, f, g, h, i, j, k], 1) else bs' 10 [d] [(0, a), (1, b), (2, c), (3, e), (4, f), (5, g), (6, h), (7, i), (8, j), (9, k)] := by
  split
  · rename_i q
    obtain ⟨q1, q2, q3, q4, q5, q6, q7, q8, q9, q10⟩ := q
    simp [bs, afill, zeros, asC_ok q1, asC_ok q2, asC_ok q3, asC_ok q4, asC_ok q5, asC_ok q6, asC_ok q7, asC_ok q8, asC_ok q9, asC_ok q10, setAll, List.replicate]
  · rfl
theorem chunk_one10 (a b c e f g h i j k : AV) : chunk 1 10 [a, b, c, e, f, g, h, i, j, k] = [[a], [b], [c], [e], [f], [g], [h], [i], [j], [k]] := rfl
theorem d_tup3 {H : Hp} {x t : AV} (h : deep H 11 x = some t) (z1 z2 : Int) : deep H depthD (.tup [x, .v (.int .i64 z1), .v (.int .i64 z2)]) = some (.tup [t, .v (.int .i64 z1), .v (.int .i64 z2)]) := by
  show ([x, .v (.int .i64 z1), .v (.int .i64 z2)].mapM (deep H 11)).map AV.tup = _
  rw [mapM_c h (mapM_c rfl (mapM_c rfl mapM_n))]; rfl
theorem d_two (H : Hp) (A B : List RecordM) : deep H depthD (.tup [.lst false (A.map encRecord), .lst false (B.map encRecord)]) = some (.tup [.lst false (A.map encRecord), .lst false (B.map encRecord)]) := by
  show ([AV.lst false (A.map encRecord), .lst false (B.map encRecord)].mapM (deep H 11)).map AV.tup = _
  rw [mapM_c ((fz_rows (n := 10) (fun k => fzE_Record 9 k) A).1 H) (mapM_c ((fz_rows (n := 10) (fun k => fzE_Record 9 k) B).1 H) mapM_n)]; rfl
section
variable {code : List Int} {a : Nat} {H : Hp} {b : Nat} {q : Option (AV × Hp)}
def someTab : List (List ByteArray) := [[⟨#[115, 49]⟩, ⟨#[108, 111, 99, 97, 108]⟩], [⟨#[115, 48]⟩, ⟨#[108, 111, 99, 97, 108]⟩], [⟨#[115, 49, 50]⟩, ⟨#[108, 111, 99, 97, 108]⟩], [⟨#[115, 49]⟩], [⟨#[97]⟩, ⟨#[98]⟩, ⟨#[99]⟩], [], [⟨#[115, 48, 49]⟩, ⟨#[108, 111, 99, 97, 108]⟩], [⟨#[120, 45, 57]⟩, ⟨#[108, 111, 99, 97, 108]⟩], [⟨#[115, 49, 48, 48]⟩, ⟨#[108, 111, 99, 97, 108]⟩], [⟨#[115, 49]⟩, ⟨#[108, 111, 99, 97, 108, 115]⟩]]
def textsT (l : List ByteArray) : AV := .lst true (l.map fun s => [.v (.string s)])
theorem some_get (n : Nat) (hn : n < 10) : ∃ l ∈ someTab, ([[AV.lst true [[AV.v (.string ⟨#[115, 49]⟩)], [AV.v (.string ⟨#[108, 111, 99, 97, 108]⟩)]]], [AV.lst true [[AV.v (.string ⟨#[115, 48]⟩)], [AV.v (.string ⟨#[108, 111, 99, 97, 108]⟩)]]], [AV.lst true [[AV.v (.string ⟨#[115, 49, 50]⟩)], [AV.v (.string ⟨#[108, 111, 99, 97, 108]⟩)]]], [AV.lst true [[AV.v (.string ⟨#[115, 49]⟩)]]], [AV.lst true [[AV.v (.string ⟨#[97]⟩)], [AV.v (.string ⟨#[98]⟩)], [AV.v (.string ⟨#[99]⟩)]]], [AV.lst true []], [AV.lst true [[AV.v (.string ⟨#[115, 48, 49]⟩)], [AV.v (.string ⟨#[108, 111, 99, 97, 108]⟩)]]], [AV.lst true [[AV.v (.string ⟨#[120, 45, 57]⟩)], [AV.v (.string ⟨#[108, 111, 99, 97, 108]⟩)]]], [AV.lst true [[AV.v (.string ⟨#[115, 49, 48, 48]⟩)], [AV.v (.string ⟨#[108, 111, 99, 97, 108]⟩)]]], [AV.lst true [[AV.v (.string ⟨#[115, 49]⟩)], [AV.v (.string ⟨#[108, 111, 99, 97, 108, 115]⟩)]]]] : List (List AV))[n]? = some [AV.lst true (l.map fun s => [AV.v (.string s)])] := by
  match n, hn with
  | 0, _ => exact ⟨[⟨#[115, 49]⟩, ⟨#[108, 111, 99, 97, 108]⟩], by simp [someTab], rfl⟩
  | 1, _ => exact ⟨[⟨#[115, 48]⟩, ⟨#[108, 111, 99, 97, 108]⟩], by simp [someTab], rfl⟩
  | 2, _ => exact ⟨[⟨#[115, 49, 50]⟩, ⟨#[108, 111, 99, 97, 108]⟩], by simp [someTab], rfl⟩
  | 3, _ => exact ⟨[⟨#[115, 49]⟩], by simp [someTab], rfl⟩
  | 4, _ => exact ⟨[⟨#[97]⟩, ⟨#[98]⟩, ⟨#[99]⟩], by simp [someTab], rfl⟩
  | 5, _ => exact ⟨[], by simp [someTab], rfl⟩
  | 6, _ => exact ⟨[⟨#[115, 48, 49]⟩, ⟨#[108, 111, 99, 97, 108]⟩], by simp [someTab], rfl⟩
  | 7, _ => exact ⟨[⟨#[120, 45, 57]⟩, ⟨#[108, 111, 99, 97, 108]⟩], by simp [someTab], rfl⟩
  | 8, _ => exact ⟨[⟨#[115, 49, 48, 48]⟩, ⟨#[108, 111, 99, 97, 108]⟩], by simp [someTab], rfl⟩
  | 9, _ => exact ⟨[⟨#[115, 49]⟩, ⟨#[108, 111, 99, 97, 108, 115]⟩], by simp [someTab], rfl⟩
theorem ok_10Some : fnOk Tryd.prog cfg0 22 Tryd.f22 = true := by kernel_rfl
theorem d_10Some (hco : CodeOk code) (hS : Src H b code a) (ha : a ≤ 700000000) (hq : call Tryd.prog cfg0 0 22 [.ptr b 0] H = q) :
    ∃ (l : List ByteArray) (H' : Hp), q = some (textsT l, H') ∧ l ∈ someTab ∧ Fr b H H' := by
  subst hq
  have key : ∃ r, body Tryd.prog cfg0 22 Tryd.f22 [.ptr b 0] H = some r ∧ (∃ (l : List ByteArray), r.1 = textsT l ∧ l ∈ someTab ∧ Fr b H r.2) := by
    refine body_wp (rs := [.tmp 2]) rfl rfl (R := fun x H' => ∃ (l : List ByteArray), x = textsT l ∧ l ∈ someTab ∧ Fr b H H') ?_
    have hp0 : ∀ b, cfg0.pol 22 b = 0 := fun b => rfl
    repeat' ((fail_if_success (first | refine wAt 2 ?_)); first | ((first | refine wSeqr (fun xx hx => ?_) | refine wIf (fun xx hx => ?_) | refine wReg (fun xx hx => ?_) | (refine wRet ?_; (try simp only [thenQ, blockQ]); refine ends_by (fun xx hx => ?_))); have hc := trivial; (repeat' (simp only [hc, Nat.reduceBEq, go_sem, Nat.reduceAdd, Nat.reduceMul, Nat.reduceSub, Nat.reduceEqDiff, Nat.reduceLT, Nat.reduceLeDiff, Int.reduceEq, Int.reduceLT, Int.reduceLE, reduceIte, aresults, aresult, hp0, bs_10, chunk_one10] at hx; (try (rw [guardL_if] at hx; split at hx <;> rename_i hc)))); all_goals (subst hx; first | (refine ⟨_, rfl, fun ht => ?_, fun ht => ?_⟩ <;> (try simp only [bbs, beq_iff_eq, bne_iff_ne, ne_eq] at ht)) | (refine ⟨_, rfl, ?_⟩; (try simp only [tupOf])))) | refine wSkip ?_ | (refine wExit ?_; simp only [thenQ, blockQ, reduceIte, Nat.reduceEqDiff]) | refine wSeq ?_ | refine wBlock ?_)
    all_goals try (exfalso; (try simp only [bbs, beq_iff_eq, bne_iff_ne, ne_eq] at *); first | omega | exact absurd trivial (by assumption))
    (first | refine wSeqr (fun xx hx => ?_) | refine wReg (fun xx hx => ?_)); have hc := trivial; (repeat' (simp only [hc, Nat.reduceBEq, go_sem, Nat.reduceAdd, Nat.reduceMul, Nat.reduceSub, Nat.reduceEqDiff, Nat.reduceLT, Nat.reduceLeDiff, Int.reduceEq, Int.reduceLT, Int.reduceLE, reduceIte, aresults, aresult, hp0] at hx; (try (rw [guardL_if] at hx; split at hx <;> rename_i hc)))); generalize hq : call Tryd.prog cfg0 0 _ _ _ = q at hx
    obtain ⟨v, H2, rfl, v1, S2, F2, G2⟩ := d_Next hco hS (by omega) (by omega) hq
    clear hq
    have hv := v1.2.1 (by omega)
    obtain ⟨l, hl, hz⟩ := some_get v.toNat (by omega)
    have hnat : natOf (.v (.int .i64 v)) = some v.toNat := by simp only [natOf]; rw [if_pos v1.1]
    have hc := trivial; (repeat' (simp only [hc, Nat.reduceBEq, go_sem, Nat.reduceAdd, Nat.reduceMul, Nat.reduceSub, Nat.reduceEqDiff, Nat.reduceLT, Nat.reduceLeDiff, Int.reduceEq, Int.reduceLT, Int.reduceLE, reduceIte, aresults, aresult, hp0, hnat, hz] at hx; (try (rw [guardL_if] at hx; split at hx <;> rename_i hc)))); all_goals (subst hx; refine ⟨_, rfl, ?_⟩)
    repeat' (first | ((first | refine wSeqr (fun xx hx => ?_) | refine wIf (fun xx hx => ?_) | refine wReg (fun xx hx => ?_) | (refine wRet ?_; (try simp only [thenQ, blockQ]); refine ends_by (fun xx hx => ?_))); have hc := trivial; (repeat' (simp only [hc, Nat.reduceBEq, go_sem, Nat.reduceAdd, Nat.reduceMul, Nat.reduceSub, Nat.reduceEqDiff, Nat.reduceLT, Nat.reduceLeDiff, Int.reduceEq, Int.reduceLT, Int.reduceLE, reduceIte, aresults, aresult, hp0] at hx; (try (rw [guardL_if] at hx; split at hx <;> rename_i hc)))); all_goals (subst hx; first | (refine ⟨_, rfl, fun ht => ?_, fun ht => ?_⟩ <;> (try simp only [bbs, beq_iff_eq, bne_iff_ne, ne_eq] at ht)) | (refine ⟨_, rfl, ?_⟩; (try simp only [tupOf])))) | refine wSkip ?_ | (refine wExit ?_; simp only [thenQ, blockQ, reduceIte, Nat.reduceEqDiff]) | refine wSeq ?_ | refine wBlock ?_)
    all_goals try (exfalso; (try simp only [bbs, beq_iff_eq, bne_iff_ne, ne_eq] at *); first | omega | exact absurd trivial (by assumption))
    exact ⟨l, rfl, hl, F2⟩
  obtain ⟨⟨x, H'⟩, h1, l, h2, h3, h4⟩ := key
  exact ⟨l, H', by rw [call_raw Tryd.prog cfg0 Tryd.func22 rfl ok_10Some rfl rfl, h1, ← h2], h3, h4⟩
end
section
variable {code : List Int}
theorem ok_DrawSv : fnOk Tryd.prog cfg0 7 Tryd.f7 = true := by kernel_rfl
theorem c_DrawSv (hco : CodeOk code) : ∃ l : List ByteArray, l ∈ someTab ∧ ∀ H, call Tryd.prog cfg0 0 7 [bytesL code] H = some (textsL l, H) := by
  have key : ∃ v cl, (∃ l : List ByteArray, l ∈ someTab ∧ v = textsL l) ∧ pure Tryd.prog cfg0 7 Tryd.f7 [bytesL code] = some (v, cl) := by
    refine pure_ex (rs := [.tmp 2]) rfl rfl ?_
    have hp0 : ∀ b, cfg0.pol 7 b = 0 := fun b => rfl
    repeat' ((fail_if_success (first | refine wAt 1 ?_)); first | ((first | refine wSeqr (fun xx hx => ?_) | refine wIf (fun xx hx => ?_) | refine wReg (fun xx hx => ?_) | (refine wRet ?_; (try simp only [thenQ, blockQ]); refine ends_by (fun xx hx => ?_))); have hc := trivial; (repeat' (simp only [hc, Nat.reduceBEq, go_sem, Nat.reduceAdd, Nat.reduceMul, Nat.reduceSub, Nat.reduceEqDiff, Nat.reduceLT, Nat.reduceLeDiff, Int.reduceEq, Int.reduceLT, Int.reduceLE, reduceIte, aresults, aresult, hp0, d_Source code] at hx; (try (rw [guardL_if] at hx; split at hx <;> rename_i hc)))); all_goals (subst hx; first | (refine ⟨_, rfl, fun ht => ?_, fun ht => ?_⟩ <;> (try simp only [bbs, beq_iff_eq, bne_iff_ne, ne_eq] at ht)) | (refine ⟨_, rfl, ?_⟩; (try simp only [tupOf])))) | refine wSkip ?_ | (refine wExit ?_; simp only [thenQ, blockQ, reduceIte, Nat.reduceEqDiff]) | refine wSeq ?_ | refine wBlock ?_)
    (first | refine wSeqr (fun xx hx => ?_) | refine wReg (fun xx hx => ?_)); have hc := trivial; (repeat' (simp only [hc, Nat.reduceBEq, go_sem, Nat.reduceAdd, Nat.reduceMul, Nat.reduceSub, Nat.reduceEqDiff, Nat.reduceLT, Nat.reduceLeDiff, Int.reduceEq, Int.reduceLT, Int.reduceLE, reduceIte, aresults, aresult, hp0, d_Source code] at hx; (try (rw [guardL_if] at hx; split at hx <;> rename_i hc)))); generalize hq : call Tryd.prog cfg0 0 22 _ _ = q at hx
    obtain ⟨l, H1, rfl, hl, F1⟩ := d_10Some hco (a := 0) (H := Hp.nil.new [bytesL code, .v (.int .i64 ((0 : Nat) : Int))]) ⟨new_same _ _, by simp⟩ (by omega) hq
    clear hq
    have hc := trivial; (repeat' (simp only [hc, Nat.reduceBEq, go_sem, Nat.reduceAdd, Nat.reduceMul, Nat.reduceSub, Nat.reduceEqDiff, Nat.reduceLT, Nat.reduceLeDiff, Int.reduceEq, Int.reduceLT, Int.reduceLE, reduceIte, aresults, aresult, hp0] at hx; (try (rw [guardL_if] at hx; split at hx <;> rename_i hc)))); all_goals (subst hx; refine ⟨_, rfl, ?_⟩)
    repeat' (first | ((first | refine wSeqr (fun xx hx => ?_) | refine wIf (fun xx hx => ?_) | refine wReg (fun xx hx => ?_) | (refine wRet ?_; (try simp only [thenQ, blockQ]); refine ends_by (fun xx hx => ?_))); have hc := trivial; (repeat' (simp only [hc, Nat.reduceBEq, go_sem, Nat.reduceAdd, Nat.reduceMul, Nat.reduceSub, Nat.reduceEqDiff, Nat.reduceLT, Nat.reduceLeDiff, Int.reduceEq, Int.reduceLT, Int.reduceLE, reduceIte, aresults, aresult, hp0] at hx; (try (rw [guardL_if] at hx; split at hx <;> rename_i hc)))); all_goals (subst hx; first | (refine ⟨_, rfl, fun ht => ?_, fun ht => ?_⟩ <;> (try simp only [bbs, beq_iff_eq, bne_iff_ne, ne_eq] at ht)) | (refine ⟨_, rfl, ?_⟩; (try simp only [tupOf])))) | refine wSkip ?_ | (refine wExit ?_; simp only [thenQ, blockQ, reduceIte, Nat.reduceEqDiff]) | refine wSeq ?_ | refine wBlock ?_)
    all_goals try (exfalso; (try simp only [bbs, beq_iff_eq, bne_iff_ne, ne_eq] at *); first | omega | exact absurd trivial (by assumption))
    refine ⟨_, _, ⟨l, hl, rfl⟩, ?_, rfl⟩
    exact (fz_texts l).1 H1
  obtain ⟨v, cl, ⟨l, hl, rfl⟩, hp⟩ := key
  exact ⟨l, hl, fun H => call_fz Tryd.func7 rfl ok_DrawSv rfl (by simp only [fz_cons, fz_nil, go_sem, and_self]) hp H⟩
theorem ok_DrawRF : fnOk Tryd.prog cfg0 5 Tryd.f5 = true := by kernel_rfl
theorem c_DrawRF (hco : CodeOk code) : ∃ (ms : List ClaimM) (sv kind : Int), ms.length ≤ 8 ∧ ∀ H, call Tryd.prog cfg0 0 5 [bytesL code] H = some (.tup [.lst false (ms.map encClaim), .v (.int .i64 sv), .v (.int .i64 kind)], H) := by
  have key : ∃ v cl, (∃ (ms : List ClaimM) (sv kind : Int), ms.length ≤ 8 ∧ v = .tup [.lst false (ms.map encClaim), .v (.int .i64 sv), .v (.int .i64 kind)]) ∧ pure Tryd.prog cfg0 5 Tryd.f5 [bytesL code] = some (v, cl) := by
    refine pure_ex (rs := [.tmp 2, .tmp 3, .tmp 4]) rfl rfl ?_
    have hp0 : ∀ b, cfg0.pol 5 b = 0 := fun b => rfl
    repeat' ((fail_if_success (first | refine wAt 2 ?_)); first | ((first | refine wSeqr (fun xx hx => ?_) | refine wIf (fun xx hx => ?_) | refine wReg (fun xx hx => ?_) | (refine wRet ?_; (try simp only [thenQ, blockQ]); refine ends_by (fun xx hx => ?_))); have hc := trivial; (repeat' (simp only [hc, Nat.reduceBEq, go_sem, Nat.reduceAdd, Nat.reduceMul, Nat.reduceSub, Nat.reduceEqDiff, Nat.reduceLT, Nat.reduceLeDiff, Int.reduceEq, Int.reduceLT, Int.reduceLE, reduceIte, aresults, aresult, hp0, d_Source code] at hx; (try (rw [guardL_if] at hx; split at hx <;> rename_i hc)))); all_goals (subst hx; first | (refine ⟨_, rfl, fun ht => ?_, fun ht => ?_⟩ <;> (try simp only [bbs, beq_iff_eq, bne_iff_ne, ne_eq] at ht)) | (refine ⟨_, rfl, ?_⟩; (try simp only [tupOf])))) | refine wSkip ?_ | (refine wExit ?_; simp only [thenQ, blockQ, reduceIte, Nat.reduceEqDiff]) | refine wSeq ?_ | refine wBlock ?_)
    (first | refine wSeqr (fun xx hx => ?_) | refine wReg (fun xx hx => ?_)); have hc := trivial; (repeat' (simp only [hc, Nat.reduceBEq, go_sem, Nat.reduceAdd, Nat.reduceMul, Nat.reduceSub, Nat.reduceEqDiff, Nat.reduceLT, Nat.reduceLeDiff, Int.reduceEq, Int.reduceLT, Int.reduceLE, reduceIte, aresults, aresult, hp0] at hx; (try (rw [guardL_if] at hx; split at hx <;> rename_i hc)))); generalize hq : call Tryd.prog cfg0 0 _ _ _ = q at hx
    obtain ⟨x, H1, ms, rfl, hr, hlen, hvm, hoff, ⟨a1, -, ha1, S1⟩, F1⟩ := d_View hco (a := 0) (H := Hp.nil.new [bytesL code, .v (.int .i64 ((0 : Nat) : Int))]) ⟨new_same _ _, by simp⟩ (by omega) hq
    clear hq
    have hx0 : Off 0 x := hoff 0 (by show 0 < 1; omega)
    have hc := trivial; (repeat' (simp only [hc, Nat.reduceBEq, go_sem, Nat.reduceAdd, Nat.reduceMul, Nat.reduceSub, Nat.reduceEqDiff, Nat.reduceLT, Nat.reduceLeDiff, Int.reduceEq, Int.reduceLT, Int.reduceLE, reduceIte, aresults, aresult, hp0] at hx; (try (rw [guardL_if] at hx; split at hx <;> rename_i hc)))); all_goals (subst hx; refine ⟨_, rfl, ?_⟩)
    repeat' ((fail_if_success (first | refine wAt 3 ?_)); first | ((first | refine wSeqr (fun xx hx => ?_) | refine wIf (fun xx hx => ?_) | refine wReg (fun xx hx => ?_) | (refine wRet ?_; (try simp only [thenQ, blockQ]); refine ends_by (fun xx hx => ?_))); have hc := trivial; (repeat' (simp only [hc, Nat.reduceBEq, go_sem, Nat.reduceAdd, Nat.reduceMul, Nat.reduceSub, Nat.reduceEqDiff, Nat.reduceLT, Nat.reduceLeDiff, Int.reduceEq, Int.reduceLT, Int.reduceLE, reduceIte, aresults, aresult, hp0] at hx; (try (rw [guardL_if] at hx; split at hx <;> rename_i hc)))); all_goals (subst hx; first | (refine ⟨_, rfl, fun ht => ?_, fun ht => ?_⟩ <;> (try simp only [bbs, beq_iff_eq, bne_iff_ne, ne_eq] at ht)) | (refine ⟨_, rfl, ?_⟩; (try simp only [tupOf])))) | refine wSkip ?_ | (refine wExit ?_; simp only [thenQ, blockQ, reduceIte, Nat.reduceEqDiff]) | refine wSeq ?_ | refine wBlock ?_)
    (first | refine wSeqr (fun xx hx => ?_) | refine wReg (fun xx hx => ?_)); have hc := trivial; (repeat' (simp only [hc, Nat.reduceBEq, go_sem, Nat.reduceAdd, Nat.reduceMul, Nat.reduceSub, Nat.reduceEqDiff, Nat.reduceLT, Nat.reduceLeDiff, Int.reduceEq, Int.reduceLT, Int.reduceLE, reduceIte, aresults, aresult, hp0] at hx; (try (rw [guardL_if] at hx; split at hx <;> rename_i hc)))); generalize hq : call Tryd.prog cfg0 0 _ _ _ = q at hx
    obtain ⟨v, H2, rfl, S2, F2, G2⟩ := d_Chance hco S1 (by omega) (by omega) hq
    clear hq
    have hr2 := hr.keep F2 hx0
    have s2 := S2.2
    have hc := trivial; (repeat' (simp only [hc, Nat.reduceBEq, go_sem, Nat.reduceAdd, Nat.reduceMul, Nat.reduceSub, Nat.reduceEqDiff, Nat.reduceLT, Nat.reduceLeDiff, Int.reduceEq, Int.reduceLT, Int.reduceLE, reduceIte, aresults, aresult, hp0] at hx; (try (rw [guardL_if] at hx; split at hx <;> rename_i hc)))); all_goals (subst hx; refine ⟨_, rfl, ?_⟩)
    cases v with
    | false =>
      repeat' ((fail_if_success (first | refine wAt 5 ?_)); first | ((first | refine wSeqr (fun xx hx => ?_) | refine wIf (fun xx hx => ?_) | refine wReg (fun xx hx => ?_) | (refine wRet ?_; (try simp only [thenQ, blockQ]); refine ends_by (fun xx hx => ?_))); have hc := trivial; (repeat' (simp only [hc, Nat.reduceBEq, go_sem, Nat.reduceAdd, Nat.reduceMul, Nat.reduceSub, Nat.reduceEqDiff, Nat.reduceLT, Nat.reduceLeDiff, Int.reduceEq, Int.reduceLT, Int.reduceLE, reduceIte, aresults, aresult, hp0] at hx; (try (rw [guardL_if] at hx; split at hx <;> rename_i hc)))); all_goals (subst hx; first | (refine ⟨_, rfl, fun ht => ?_, fun ht => ?_⟩ <;> (try simp only [bbs, beq_iff_eq, bne_iff_ne, ne_eq] at ht)) | (refine ⟨_, rfl, ?_⟩; (try simp only [tupOf])))) | refine wSkip ?_ | (refine wExit ?_; simp only [thenQ, blockQ, reduceIte, Nat.reduceEqDiff]) | refine wSeq ?_ | refine wBlock ?_)
      all_goals try (exfalso; (try simp only [bbs, beq_iff_eq, bne_iff_ne, ne_eq] at *); first | omega | exact absurd trivial (by assumption))
      (first | refine wSeqr (fun xx hx => ?_) | refine wReg (fun xx hx => ?_)); have hc := trivial; (repeat' (simp only [hc, Nat.reduceBEq, go_sem, Nat.reduceAdd, Nat.reduceMul, Nat.reduceSub, Nat.reduceEqDiff, Nat.reduceLT, Nat.reduceLeDiff, Int.reduceEq, Int.reduceLT, Int.reduceLE, reduceIte, aresults, aresult, hp0] at hx; (try (rw [guardL_if] at hx; split at hx <;> rename_i hc)))); generalize hq : call Tryd.prog cfg0 0 _ _ _ = q at hx
      obtain ⟨z1, H3, rfl, -, S3, F3, G3⟩ := d_Pick [1, 1, 0, 12, 100, -1] (by simp) hco S2 (by omega) hq
      clear hq
      have hc := trivial; (repeat' (simp only [hc, Nat.reduceBEq, go_sem, Nat.reduceAdd, Nat.reduceMul, Nat.reduceSub, Nat.reduceEqDiff, Nat.reduceLT, Nat.reduceLeDiff, Int.reduceEq, Int.reduceLT, Int.reduceLE, reduceIte, aresults, aresult, hp0] at hx; (try (rw [guardL_if] at hx; split at hx <;> rename_i hc)))); generalize hq : call Tryd.prog cfg0 0 _ _ _ = q at hx
      obtain ⟨z2, H4, rfl, -, S4, F4, G4⟩ := d_Pick [1, 33, 1, 33, 2] (by simp) hco S3 (by omega) hq
      clear hq
      have hr4 := (hr2.keep F3 hx0).keep F4 hx0
      have hc := trivial; (repeat' (simp only [hc, Nat.reduceBEq, go_sem, Nat.reduceAdd, Nat.reduceMul, Nat.reduceSub, Nat.reduceEqDiff, Nat.reduceLT, Nat.reduceLeDiff, Int.reduceEq, Int.reduceLT, Int.reduceLE, reduceIte, aresults, aresult, hp0] at hx; (try (rw [guardL_if] at hx; split at hx <;> rename_i hc)))); all_goals (subst hx; refine ⟨_, rfl, ?_⟩)
      repeat' (first | ((first | refine wSeqr (fun xx hx => ?_) | refine wIf (fun xx hx => ?_) | refine wReg (fun xx hx => ?_) | (refine wRet ?_; (try simp only [thenQ, blockQ]); refine ends_by (fun xx hx => ?_))); have hc := trivial; (repeat' (simp only [hc, Nat.reduceBEq, go_sem, Nat.reduceAdd, Nat.reduceMul, Nat.reduceSub, Nat.reduceEqDiff, Nat.reduceLT, Nat.reduceLeDiff, Int.reduceEq, Int.reduceLT, Int.reduceLE, reduceIte, aresults, aresult, hp0] at hx; (try (rw [guardL_if] at hx; split at hx <;> rename_i hc)))); all_goals (subst hx; first | (refine ⟨_, rfl, fun ht => ?_, fun ht => ?_⟩ <;> (try simp only [bbs, beq_iff_eq, bne_iff_ne, ne_eq] at ht)) | (refine ⟨_, rfl, ?_⟩; (try simp only [tupOf])))) | refine wSkip ?_ | (refine wExit ?_; simp only [thenQ, blockQ, reduceIte, Nat.reduceEqDiff]) | refine wSeq ?_ | refine wBlock ?_)
      all_goals try (exfalso; (try simp only [bbs, beq_iff_eq, bne_iff_ne, ne_eq] at *); first | omega | exact absurd trivial (by assumption))
      exact ⟨_, _, ⟨ms, z1, z2, hlen, rfl⟩, d_tup3 (hr4.deep 9) z1 z2, rfl⟩
    | true =>
      repeat' ((fail_if_success (first | refine wAt 4 ?_)); first | ((first | refine wSeqr (fun xx hx => ?_) | refine wIf (fun xx hx => ?_) | refine wReg (fun xx hx => ?_) | (refine wRet ?_; (try simp only [thenQ, blockQ]); refine ends_by (fun xx hx => ?_))); have hc := trivial; (repeat' (simp only [hc, Nat.reduceBEq, go_sem, Nat.reduceAdd, Nat.reduceMul, Nat.reduceSub, Nat.reduceEqDiff, Nat.reduceLT, Nat.reduceLeDiff, Int.reduceEq, Int.reduceLT, Int.reduceLE, reduceIte, aresults, aresult, hp0] at hx; (try (rw [guardL_if] at hx; split at hx <;> rename_i hc)))); all_goals (subst hx; first | (refine ⟨_, rfl, fun ht => ?_, fun ht => ?_⟩ <;> (try simp only [bbs, beq_iff_eq, bne_iff_ne, ne_eq] at ht)) | (refine ⟨_, rfl, ?_⟩; (try simp only [tupOf])))) | refine wSkip ?_ | (refine wExit ?_; simp only [thenQ, blockQ, reduceIte, Nat.reduceEqDiff]) | refine wSeq ?_ | refine wBlock ?_)
      all_goals try (exfalso; (try simp only [bbs, beq_iff_eq, bne_iff_ne, ne_eq] at *); first | omega | exact absurd trivial (by assumption))
      (first | refine wSeqr (fun xx hx => ?_) | refine wReg (fun xx hx => ?_)); have hc := trivial; (repeat' (simp only [hc, Nat.reduceBEq, go_sem, Nat.reduceAdd, Nat.reduceMul, Nat.reduceSub, Nat.reduceEqDiff, Nat.reduceLT, Nat.reduceLeDiff, Int.reduceEq, Int.reduceLT, Int.reduceLE, reduceIte, aresults, aresult, hp0] at hx; (try (rw [guardL_if] at hx; split at hx <;> rename_i hc)))); generalize hq : call Tryd.prog cfg0 0 _ _ _ = q at hx
      obtain ⟨y, H5, ms5, rfl, hr5, hlen5, hoff5, ⟨a5, -, ha5, S5⟩, F5⟩ := d_8Bent hco S2 (by omega) hq
      clear hq
      have hy0 : Off 0 y := hoff5 0 s2
      have hc := trivial; (repeat' (simp only [hc, Nat.reduceBEq, go_sem, Nat.reduceAdd, Nat.reduceMul, Nat.reduceSub, Nat.reduceEqDiff, Nat.reduceLT, Nat.reduceLeDiff, Int.reduceEq, Int.reduceLT, Int.reduceLE, reduceIte, aresults, aresult, hp0] at hx; (try (rw [guardL_if] at hx; split at hx <;> rename_i hc)))); all_goals (subst hx; refine ⟨_, rfl, ?_⟩)
      repeat' ((fail_if_success (first | refine wAt 5 ?_)); first | ((first | refine wSeqr (fun xx hx => ?_) | refine wIf (fun xx hx => ?_) | refine wReg (fun xx hx => ?_) | (refine wRet ?_; (try simp only [thenQ, blockQ]); refine ends_by (fun xx hx => ?_))); have hc := trivial; (repeat' (simp only [hc, Nat.reduceBEq, go_sem, Nat.reduceAdd, Nat.reduceMul, Nat.reduceSub, Nat.reduceEqDiff, Nat.reduceLT, Nat.reduceLeDiff, Int.reduceEq, Int.reduceLT, Int.reduceLE, reduceIte, aresults, aresult, hp0] at hx; (try (rw [guardL_if] at hx; split at hx <;> rename_i hc)))); all_goals (subst hx; first | (refine ⟨_, rfl, fun ht => ?_, fun ht => ?_⟩ <;> (try simp only [bbs, beq_iff_eq, bne_iff_ne, ne_eq] at ht)) | (refine ⟨_, rfl, ?_⟩; (try simp only [tupOf])))) | refine wSkip ?_ | (refine wExit ?_; simp only [thenQ, blockQ, reduceIte, Nat.reduceEqDiff]) | refine wSeq ?_ | refine wBlock ?_)
      (first | refine wSeqr (fun xx hx => ?_) | refine wReg (fun xx hx => ?_)); have hc := trivial; (repeat' (simp only [hc, Nat.reduceBEq, go_sem, Nat.reduceAdd, Nat.reduceMul, Nat.reduceSub, Nat.reduceEqDiff, Nat.reduceLT, Nat.reduceLeDiff, Int.reduceEq, Int.reduceLT, Int.reduceLE, reduceIte, aresults, aresult, hp0] at hx; (try (rw [guardL_if] at hx; split at hx <;> rename_i hc)))); generalize hq : call Tryd.prog cfg0 0 _ _ _ = q at hx
      obtain ⟨z1, H3, rfl, -, S3, F3, G3⟩ := d_Pick [1, 1, 0, 12, 100, -1] (by simp) hco S5 (by omega) hq
      clear hq
      have hc := trivial; (repeat' (simp only [hc, Nat.reduceBEq, go_sem, Nat.reduceAdd, Nat.reduceMul, Nat.reduceSub, Nat.reduceEqDiff, Nat.reduceLT, Nat.reduceLeDiff, Int.reduceEq, Int.reduceLT, Int.reduceLE, reduceIte, aresults, aresult, hp0] at hx; (try (rw [guardL_if] at hx; split at hx <;> rename_i hc)))); generalize hq : call Tryd.prog cfg0 0 _ _ _ = q at hx
      obtain ⟨z2, H4, rfl, -, S4, F4, G4⟩ := d_Pick [1, 33, 1, 33, 2] (by simp) hco S3 (by omega) hq
      clear hq
      have hr4 := (hr5.keep F3 hy0).keep F4 hy0
      have hc := trivial; (repeat' (simp only [hc, Nat.reduceBEq, go_sem, Nat.reduceAdd, Nat.reduceMul, Nat.reduceSub, Nat.reduceEqDiff, Nat.reduceLT, Nat.reduceLeDiff, Int.reduceEq, Int.reduceLT, Int.reduceLE, reduceIte, aresults, aresult, hp0] at hx; (try (rw [guardL_if] at hx; split at hx <;> rename_i hc)))); all_goals (subst hx; refine ⟨_, rfl, ?_⟩)
      repeat' (first | ((first | refine wSeqr (fun xx hx => ?_) | refine wIf (fun xx hx => ?_) | refine wReg (fun xx hx => ?_) | (refine wRet ?_; (try simp only [thenQ, blockQ]); refine ends_by (fun xx hx => ?_))); have hc := trivial; (repeat' (simp only [hc, Nat.reduceBEq, go_sem, Nat.reduceAdd, Nat.reduceMul, Nat.reduceSub, Nat.reduceEqDiff, Nat.reduceLT, Nat.reduceLeDiff, Int.reduceEq, Int.reduceLT, Int.reduceLE, reduceIte, aresults, aresult, hp0] at hx; (try (rw [guardL_if] at hx; split at hx <;> rename_i hc)))); all_goals (subst hx; first | (refine ⟨_, rfl, fun ht => ?_, fun ht => ?_⟩ <;> (try simp only [bbs, beq_iff_eq, bne_iff_ne, ne_eq] at ht)) | (refine ⟨_, rfl, ?_⟩; (try simp only [tupOf])))) | refine wSkip ?_ | (refine wExit ?_; simp only [thenQ, blockQ, reduceIte, Nat.reduceEqDiff]) | refine wSeq ?_ | refine wBlock ?_)
      all_goals try (exfalso; (try simp only [bbs, beq_iff_eq, bne_iff_ne, ne_eq] at *); first | omega | exact absurd trivial (by assumption))
      exact ⟨_, _, ⟨ms5, z1, z2, hlen5, rfl⟩, d_tup3 (hr4.deep 9) z1 z2, rfl⟩
  obtain ⟨v, cl, ⟨ms, sv, kind, hl, rfl⟩, hp⟩ := key
  exact ⟨ms, sv, kind, hl, fun H => call_fz Tryd.func5 rfl ok_DrawRF rfl (by simp only [fz_cons, fz_nil, go_sem, and_self]) hp H⟩
theorem ok_DrawSR : fnOk Tryd.prog cfg0 8 Tryd.f8 = true := by kernel_rfl
theorem c_DrawSR (hco : CodeOk code) : ∃ (A B : List RecordM), (A.length ≤ 8 ∧ B.length ≤ 8) ∧ ∀ H, call Tryd.prog cfg0 0 8 [bytesL code] H = some (.tup [.lst false (A.map encRecord), .lst false (B.map encRecord)], H) := by
  have key : ∃ v cl, (∃ (A B : List RecordM), (A.length ≤ 8 ∧ B.length ≤ 8) ∧ v = .tup [.lst false (A.map encRecord), .lst false (B.map encRecord)]) ∧ pure Tryd.prog cfg0 8 Tryd.f8 [bytesL code] = some (v, cl) := by
    refine pure_ex (rs := [.tmp 2, .tmp 3]) rfl rfl ?_
    have hp0 : ∀ b, cfg0.pol 8 b = 0 := fun b => rfl
    repeat' ((fail_if_success (first | refine wAt 2 ?_)); first | ((first | refine wSeqr (fun xx hx => ?_) | refine wIf (fun xx hx => ?_) | refine wReg (fun xx hx => ?_) | (refine wRet ?_; (try simp only [thenQ, blockQ]); refine ends_by (fun xx hx => ?_))); have hc := trivial; (repeat' (simp only [hc, Nat.reduceBEq, go_sem, Nat.reduceAdd, Nat.reduceMul, Nat.reduceSub, Nat.reduceEqDiff, Nat.reduceLT, Nat.reduceLeDiff, Int.reduceEq, Int.reduceLT, Int.reduceLE, reduceIte, aresults, aresult, hp0, d_Source code] at hx; (try (rw [guardL_if] at hx; split at hx <;> rename_i hc)))); all_goals (subst hx; first | (refine ⟨_, rfl, fun ht => ?_, fun ht => ?_⟩ <;> (try simp only [bbs, beq_iff_eq, bne_iff_ne, ne_eq] at ht)) | (refine ⟨_, rfl, ?_⟩; (try simp only [tupOf])))) | refine wSkip ?_ | (refine wExit ?_; simp only [thenQ, blockQ, reduceIte, Nat.reduceEqDiff]) | refine wSeq ?_ | refine wBlock ?_)
    (first | refine wSeqr (fun xx hx => ?_) | refine wReg (fun xx hx => ?_)); have hc := trivial; (repeat' (simp only [hc, Nat.reduceBEq, go_sem, Nat.reduceAdd, Nat.reduceMul, Nat.reduceSub, Nat.reduceEqDiff, Nat.reduceLT, Nat.reduceLeDiff, Int.reduceEq, Int.reduceLT, Int.reduceLE, reduceIte, aresults, aresult, hp0] at hx; (try (rw [guardL_if] at hx; split at hx <;> rename_i hc)))); generalize hq : call Tryd.prog cfg0 0 _ _ _ = q at hx
    obtain ⟨x, H1, ms, rfl, hr, hlen, hvm, hoff, ⟨a1, -, ha1, S1⟩, F1⟩ := d_View hco (a := 0) (H := Hp.nil.new [bytesL code, .v (.int .i64 ((0 : Nat) : Int))]) ⟨new_same _ _, by simp⟩ (by omega) hq
    clear hq
    have hx0 : Off 0 x := hoff 0 (by show 0 < 1; omega)
    have hcm : CMeta ms := fun c hc => by have := hvm c hc; unfold VM at this; omega
    have rcc : ∀ {K : Hp}, CL K x ms → ∀ sv kind : Int, call Tryd.prog cfg0 0 23 [x, .v (.int .i64 sv), .v (.int .i64 kind)] K = some (.lst false ((recsL ms sv kind).map encRecord), K) := fun hK sv kind =>
      call_of Tryd.func23 rfl ok_sl10Records rfl (by omega) (mapM_c (hK.deep 10) (mapM_c rfl (mapM_c rfl mapM_n))) (p_sl10Records ms (by omega) hcm sv kind) (.inl rfl)
    have hc := trivial; (repeat' (simp only [hc, Nat.reduceBEq, go_sem, Nat.reduceAdd, Nat.reduceMul, Nat.reduceSub, Nat.reduceEqDiff, Nat.reduceLT, Nat.reduceLeDiff, Int.reduceEq, Int.reduceLT, Int.reduceLE, reduceIte, aresults, aresult, hp0] at hx; (try (rw [guardL_if] at hx; split at hx <;> rename_i hc)))); all_goals (subst hx; refine ⟨_, rfl, ?_⟩)
    repeat' ((fail_if_success (first | refine wAt 4 ?_)); first | ((first | refine wSeqr (fun xx hx => ?_) | refine wIf (fun xx hx => ?_) | refine wReg (fun xx hx => ?_) | (refine wRet ?_; (try simp only [thenQ, blockQ]); refine ends_by (fun xx hx => ?_))); have hc := trivial; (repeat' (simp only [hc, Nat.reduceBEq, go_sem, Nat.reduceAdd, Nat.reduceMul, Nat.reduceSub, Nat.reduceEqDiff, Nat.reduceLT, Nat.reduceLeDiff, Int.reduceEq, Int.reduceLT, Int.reduceLE, reduceIte, aresults, aresult, hp0, rcc hr 1 33] at hx; (try (rw [guardL_if] at hx; split at hx <;> rename_i hc)))); all_goals (subst hx; first | (refine ⟨_, rfl, fun ht => ?_, fun ht => ?_⟩ <;> (try simp only [bbs, beq_iff_eq, bne_iff_ne, ne_eq] at ht)) | (refine ⟨_, rfl, ?_⟩; (try simp only [tupOf])))) | refine wSkip ?_ | (refine wExit ?_; simp only [thenQ, blockQ, reduceIte, Nat.reduceEqDiff]) | refine wSeq ?_ | refine wBlock ?_)
    (first | refine wSeqr (fun xx hx => ?_) | refine wReg (fun xx hx => ?_)); have hc := trivial; (repeat' (simp only [hc, Nat.reduceBEq, go_sem, Nat.reduceAdd, Nat.reduceMul, Nat.reduceSub, Nat.reduceEqDiff, Nat.reduceLT, Nat.reduceLeDiff, Int.reduceEq, Int.reduceLT, Int.reduceLE, reduceIte, aresults, aresult, hp0] at hx; (try (rw [guardL_if] at hx; split at hx <;> rename_i hc)))); generalize hq : call Tryd.prog cfg0 0 _ _ _ = q at hx
    obtain ⟨z, H2, rfl, -, S2, F2, G2⟩ := d_Pick [33, 1] (by simp) hco S1 (by omega) hq
    clear hq
    have hr2 := hr.keep F2 hx0
    have hc := trivial; (repeat' (simp only [hc, Nat.reduceBEq, go_sem, Nat.reduceAdd, Nat.reduceMul, Nat.reduceSub, Nat.reduceEqDiff, Nat.reduceLT, Nat.reduceLeDiff, Int.reduceEq, Int.reduceLT, Int.reduceLE, reduceIte, aresults, aresult, hp0, rcc hr2 1 z] at hx; (try (rw [guardL_if] at hx; split at hx <;> rename_i hc)))); all_goals (subst hx; refine ⟨_, rfl, ?_⟩)
    repeat' (first | ((first | refine wSeqr (fun xx hx => ?_) | refine wIf (fun xx hx => ?_) | refine wReg (fun xx hx => ?_) | (refine wRet ?_; (try simp only [thenQ, blockQ]); refine ends_by (fun xx hx => ?_))); have hc := trivial; (repeat' (simp only [hc, Nat.reduceBEq, go_sem, Nat.reduceAdd, Nat.reduceMul, Nat.reduceSub, Nat.reduceEqDiff, Nat.reduceLT, Nat.reduceLeDiff, Int.reduceEq, Int.reduceLT, Int.reduceLE, reduceIte, aresults, aresult, hp0] at hx; (try (rw [guardL_if] at hx; split at hx <;> rename_i hc)))); all_goals (subst hx; first | (refine ⟨_, rfl, fun ht => ?_, fun ht => ?_⟩ <;> (try simp only [bbs, beq_iff_eq, bne_iff_ne, ne_eq] at ht)) | (refine ⟨_, rfl, ?_⟩; (try simp only [tupOf])))) | refine wSkip ?_ | (refine wExit ?_; simp only [thenQ, blockQ, reduceIte, Nat.reduceEqDiff]) | refine wSeq ?_ | refine wBlock ?_)
    all_goals try (exfalso; (try simp only [bbs, beq_iff_eq, bne_iff_ne, ne_eq] at *); first | omega | exact absurd trivial (by assumption))
    exact ⟨_, _, ⟨recsL ms 1 33, recsL ms 1 z, ⟨Nat.le_trans (recsL_len _ _ _) hlen, Nat.le_trans (recsL_len _ _ _) hlen⟩, rfl⟩, d_two _ _ _, rfl⟩
  obtain ⟨v, cl, ⟨A, B, hl, rfl⟩, hp⟩ := key
  exact ⟨A, B, hl, fun H => call_fz Tryd.func8 rfl ok_DrawSR rfl (by simp only [fz_cons, fz_nil, go_sem, and_self]) hp H⟩
end
end
end Go.Proofs.YtepnlhjafgomgaaDoor
