/- Contracts: what a query asks for, both sides. Contracts: what a query asks for, the reference's side. Contracts: queries answered, the program's side. Contracts: queries answered, the reference's side. -/
import Derived.Test.YtnejoidfbgklbaaDoorND
namespace Go.Proofs.YtnejoidfbgklbaaDoor
open Go Go.RowKit Go.Proofs.YtnejoidfbgklbaaDoor.Eng
set_option linter.unusedSimpArgs false
set_option linter.unusedVariables false
set_option maxRecDepth 100000
set_option maxHeartbeats 2000000
noncomputable section
/-- The query of bytes that are neither too few nor too many. -/
def qF (l : List Int) : Option (Int × List ByteArray × Int) := if 12 ≤ l.length ∧ l.length ≤ 300 then askF l else none
theorem rq_some {l : List Int} {i t : Int} {ls : List ByteArray} (h : qF l = some (i, ls, t)) : rqR l = qrR 0 i ls t := by
  unfold qF at h; unfold rqR
  split at h
  · rename_i hc1; rw [if_pos hc1, h]
  · simp at h
theorem rq_none {l : List Int} (h : qF l = none) : ∃ c : Int, ¬ c = 0 ∧ rqR l = qrR c 0 [] 0 := by
  unfold qF at h; unfold rqR
  split at h
  · rename_i hc1; rw [if_pos hc1, h]; exact ⟨1, by omega, rfl⟩
  · rename_i hc1; rw [if_neg hc1]; exact ⟨2, by omega, rfl⟩
theorem qF_ok {l : List Int} (hb : Eng.Bytes l) {i t : Int} {ls : List ByteArray} (h : qF l = some (i, ls, t)) : labsOk ls ∧ (0 ≤ i ∧ i ≤ 65535) ∧ (0 ≤ t ∧ t ≤ 65535) ∧ 12 ≤ l.length ∧ l.length ≤ 300 := by
  unfold qF at h
  split at h
  · rename_i hc1
    unfold askF at h
    split at h
    · rename_i hz
      simp only [Option.some.injEq, Prod.mk.injEq] at h
      obtain ⟨rfl, rfl, rfl⟩ := h
      exact ⟨(nm_ok l 12 12 0 [] 0 ⟨by simp, by simp⟩ (by simp) hz.1).1, num2_b hb _, num2_b hb _, hc1⟩
    · simp at h
  · simp at h
def stF (ls : List ByteArray) (t : Int) : Int := if svOf ls < 0 then 3 else if typB t = true then 0 else 4
def soR (l : List Int) : AV := match qF l with
  | some (i, ls, t) => .tup [.v (.int .i64 (stF ls t)), bytesL (l.drop 12), .agg [.v (.int .i64 i), textsL ls, .v (.int .i64 t)]]
  | none => .tup [.v (.int .i64 1), bytesL [], .agg [.v (.int .i64 0), textsL [], .v (.int .i64 0)]]
theorem d_so (s i t : Int) (d : List Int) (ls : List ByteArray) (H : Hp) : deep H depthD (.tup [.v (.int .i64 s), bytesL d, .agg [.v (.int .i64 i), textsL ls, .v (.int .i64 t)]]) = some (.tup [.v (.int .i64 s), bytesL d, .agg [.v (.int .i64 i), textsL ls, .v (.int .i64 t)]]) := by
  have e0 : deep H 10 (textsL ls) = some (textsL ls) := (fz_rows (n := 9) (fun s x hx => by simp only [List.mem_singleton] at hx; subst hx; exact Fz.string _ _) ls : Fz 10 (textsL ls)).1 H
  have e : deep H 11 (.agg [.v (.int .i64 i), textsL ls, .v (.int .i64 t)]) = some (.agg [.v (.int .i64 i), textsL ls, .v (.int .i64 t)]) := by
    show (List.mapM (deep H 10) _).map AV.agg = _
    rw [mapM_c (show deep H 10 (.v (.int .i64 i)) = some (.v (.int .i64 i)) from rfl) (mapM_c e0 (mapM_c (show deep H 10 (.v (.int .i64 t)) = some (.v (.int .i64 t)) from rfl) mapM_n))]
    rfl
  show (List.mapM (deep H 11) _).map AV.tup = _
  rw [mapM_c (show deep H 11 (.v (.int .i64 s)) = some (.v (.int .i64 s)) from rfl) (mapM_c ((bytesL_fz 9 d).1 H) (mapM_c e mapM_n))]
  rfl
theorem labs_sizes {ls : List ByteArray} (h : labsOk ls) : ∀ z ∈ ls, z.size ≤ 1048576 := fun z hz => by
  have := lab_size (h.2 z hz); omega
theorem ok_istatusOf : fnOk Tryd.prog cfg0 37 Tryd.f37 = true := by kernel_rfl
theorem p_istatusOf (l : List Int) (hb : Eng.Bytes l) (hl : l.length ≤ 1048576) : ∃ cl, pure Tryd.prog cfg0 37 Tryd.f37 [bytesL l] = some (soR l, cl) := by
  have key : ∃ v cl, v = (soR l : AV) ∧ pure Tryd.prog cfg0 37 Tryd.f37 [bytesL l] = some (v, cl) := by
    refine pure_ex (rs := [.tmp 2, .tmp 3, .cell 4 52]) rfl rfl ?_
    have hp0 : ∀ b, cfg0.pol 37 b = 0 := fun b => rfl
    have hrq := c_iReadQuery l hb hl
    cases hqf : qF l with
    | none =>
      obtain ⟨c, hc0, hcr⟩ := rq_none hqf
      rw [hcr] at hrq
      unfold qrR at hrq
      rw [show soR l = .tup [.v (.int .i64 1), bytesL [], .agg [.v (.int .i64 0), textsL [], .v (.int .i64 0)]] by unfold soR; rw [hqf]]
      have tx := tx_ok []
      repeat' (first | ((first | refine wSeqr ?_ | refine wIf ?_ | refine wReg ?_ | (refine wRet ?_; (try simp only [thenQ, blockQ]); refine ends_by ?_)); intro xx hx; have hc := trivial; (repeat' (simp only [hc, Nat.reduceBEq, go_sem, Nat.reduceAdd, Nat.reduceMul, Nat.reduceSub, Nat.reduceEqDiff, Nat.reduceLT, Nat.reduceLeDiff, Int.reduceEq, Int.reduceLT, Int.reduceLE, reduceIte, aresults, aresult, hp0, hrq, hc0, tx.1, tx.2] at hx; (try (rw [guardL_if] at hx; split at hx <;> rename_i hc)))); all_goals (subst hx; first | (refine ⟨_, rfl, fun ht => ?_, fun ht => ?_⟩ <;> (try simp only [bbs] at ht)) | (refine ⟨_, rfl, ?_⟩; (try simp only [tupOf])))) | refine wSkip ?_ | (refine wExit ?_; simp only [thenQ, blockQ, reduceIte, Nat.reduceEqDiff]) | refine wSeq ?_ | refine wBlock ?_)
      all_goals try (exfalso; (try simp only [bbs] at *); first | omega | exact absurd trivial (by assumption))
      all_goals exact dirty rfl
    | some z =>
      obtain ⟨i, ls, t⟩ := z
      have hcr := rq_some hqf
      obtain ⟨hk, hi, htt, h12, h300⟩ := qF_ok hb hqf
      rw [hcr] at hrq
      unfold qrR at hrq
      have hsl : (12 ≤ l.length) = True := eq_true h12
      rw [show soR l = .tup [.v (.int .i64 (stF ls t)), bytesL (l.drop 12), .agg [.v (.int .i64 i), textsL ls, .v (.int .i64 t)]] by unfold soR; rw [hqf]]
      have tx := tx_ok ls
      have hsv := c_iServiceOf ls (labs_sizes hk)
      have hty := c_iisType t
      by_cases hs : svOf ls < 0
      · have hcs : svC ls = 4 := by unfold svC; rw [if_pos hs]
        rw [hcs] at hsv
        rw [show stF ls t = 3 from if_pos hs]
        repeat' (first | ((first | refine wSeqr ?_ | refine wIf ?_ | refine wReg ?_ | (refine wRet ?_; (try simp only [thenQ, blockQ]); refine ends_by ?_)); intro xx hx; have hc := trivial; (repeat' (simp only [hc, Nat.reduceBEq, go_sem, Nat.reduceAdd, Nat.reduceMul, Nat.reduceSub, Nat.reduceEqDiff, Nat.reduceLT, Nat.reduceLeDiff, Int.reduceEq, Int.reduceLT, Int.reduceLE, reduceIte, aresults, aresult, hp0, hrq, hsv, hsl, tx.1, tx.2] at hx; (try (rw [guardL_if] at hx; split at hx <;> rename_i hc)))); all_goals (subst hx; first | (refine ⟨_, rfl, fun ht => ?_, fun ht => ?_⟩ <;> (try simp only [bbs] at ht)) | (refine ⟨_, rfl, ?_⟩; (try simp only [tupOf])))) | refine wSkip ?_ | (refine wExit ?_; simp only [thenQ, blockQ, reduceIte, Nat.reduceEqDiff]) | refine wSeq ?_ | refine wBlock ?_)
        all_goals try (exfalso; (try simp only [bbs] at *); first | omega | exact absurd trivial (by assumption))
        all_goals exact dirty (d_so _ _ _ _ _ _)
      · have hcs : svC ls = 0 := by unfold svC; rw [if_neg hs]
        rw [hcs] at hsv
        cases htb : typB t with
        | true =>
          rw [show stF ls t = 0 by unfold stF; rw [if_neg hs, if_pos htb]]
          rw [htb] at hty
          repeat' (first | ((first | refine wSeqr ?_ | refine wIf ?_ | refine wReg ?_ | (refine wRet ?_; (try simp only [thenQ, blockQ]); refine ends_by ?_)); intro xx hx; have hc := trivial; (repeat' (simp only [hc, Nat.reduceBEq, go_sem, Nat.reduceAdd, Nat.reduceMul, Nat.reduceSub, Nat.reduceEqDiff, Nat.reduceLT, Nat.reduceLeDiff, Int.reduceEq, Int.reduceLT, Int.reduceLE, reduceIte, aresults, aresult, hp0, hrq, hsv, hty, hsl, tx.1, tx.2] at hx; (try (rw [guardL_if] at hx; split at hx <;> rename_i hc)))); all_goals (subst hx; first | (refine ⟨_, rfl, fun ht => ?_, fun ht => ?_⟩ <;> (try simp only [bbs] at ht)) | (refine ⟨_, rfl, ?_⟩; (try simp only [tupOf])))) | refine wSkip ?_ | (refine wExit ?_; simp only [thenQ, blockQ, reduceIte, Nat.reduceEqDiff]) | refine wSeq ?_ | refine wBlock ?_)
          all_goals try (exfalso; (try simp only [bbs] at *); first | omega | exact absurd trivial (by assumption))
          all_goals exact dirty (d_so _ _ _ _ _ _)
        | false =>
          rw [show stF ls t = 4 by unfold stF; rw [if_neg hs, if_neg (by simp [htb])]]
          rw [htb] at hty
          repeat' (first | ((first | refine wSeqr ?_ | refine wIf ?_ | refine wReg ?_ | (refine wRet ?_; (try simp only [thenQ, blockQ]); refine ends_by ?_)); intro xx hx; have hc := trivial; (repeat' (simp only [hc, Nat.reduceBEq, go_sem, Nat.reduceAdd, Nat.reduceMul, Nat.reduceSub, Nat.reduceEqDiff, Nat.reduceLT, Nat.reduceLeDiff, Int.reduceEq, Int.reduceLT, Int.reduceLE, reduceIte, aresults, aresult, hp0, hrq, hsv, hty, hsl, tx.1, tx.2] at hx; (try (rw [guardL_if] at hx; split at hx <;> rename_i hc)))); all_goals (subst hx; first | (refine ⟨_, rfl, fun ht => ?_, fun ht => ?_⟩ <;> (try simp only [bbs] at ht)) | (refine ⟨_, rfl, ?_⟩; (try simp only [tupOf])))) | refine wSkip ?_ | (refine wExit ?_; simp only [thenQ, blockQ, reduceIte, Nat.reduceEqDiff]) | refine wSeq ?_ | refine wBlock ?_)
          all_goals try (exfalso; (try simp only [bbs] at *); first | omega | exact absurd trivial (by assumption))
          all_goals exact dirty (d_so _ _ _ _ _ _)
  obtain ⟨v, cl, rfl, hp⟩ := key
  exact ⟨cl, hp⟩
theorem c_istatusOf (l : List Int) (hb : Eng.Bytes l) (hl : l.length ≤ 1048576) : ∀ H, call Tryd.prog cfg0 0 37 [bytesL l] H = some (soR l, H) := fun H => by
  obtain ⟨cl, hp⟩ := p_istatusOf l hb hl
  exact call_fz Tryd.func37 rfl ok_istatusOf rfl (by simp only [fz_cons, fz_nil, go_sem, and_self]) hp H

end
end Go.Proofs.YtnejoidfbgklbaaDoor
namespace Go.Proofs.YtnejoidfbgklbaaDoor
open Go Go.RowKit Go.Proofs.YtnejoidfbgklbaaDoor.Eng
set_option linter.unusedSimpArgs false
set_option linter.unusedVariables false
set_option maxRecDepth 100000
set_option maxHeartbeats 2000000
noncomputable section
end
end Go.Proofs.YtnejoidfbgklbaaDoor
namespace Go.Proofs.YtnejoidfbgklbaaDoor
open Go Go.RowKit Go.Proofs.YtnejoidfbgklbaaDoor.Eng
set_option linter.unusedSimpArgs false
set_option linter.unusedVariables false
set_option maxRecDepth 100000
set_option maxHeartbeats 2000000
noncomputable section
theorem typ_or {t : Int} (h : typB t = true) : t = 1 ∨ t = 33 := by simpa [typB] using h
end
end Go.Proofs.YtnejoidfbgklbaaDoor
namespace Go.Proofs.YtnejoidfbgklbaaDoor
open Go Go.RowKit Go.Proofs.YtnejoidfbgklbaaDoor.Eng
set_option linter.unusedSimpArgs false
set_option linter.unusedVariables false
set_option maxRecDepth 100000
set_option maxHeartbeats 2000000
noncomputable section
theorem take_two {l : List Int} (h : 2 ≤ l.length) : ∃ a b, l.take 2 = [a, b] := by
  match l, h with
  | a :: b :: r, _ => exact ⟨a, b, rfl⟩
theorem dz_nilB : Dz 12 (.lst true []) (bytesL []) := ⟨fun H => rfl, rfl⟩
end
end Go.Proofs.YtnejoidfbgklbaaDoor
