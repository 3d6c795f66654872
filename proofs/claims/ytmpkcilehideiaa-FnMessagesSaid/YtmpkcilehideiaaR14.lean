/- Contracts: draws of messages that are compared. -/
import Derived.Test.YtmpkcilehideiaaR13
namespace Go.Proofs.Ytmpkcilehideiaa
open Go Go.RowKit Go.Proofs.Ytmpkcilehideiaa.Eng
set_option linter.unusedSimpArgs false
set_option linter.unusedVariables false
set_option maxRecDepth 100000
set_option maxHeartbeats 4000000
noncomputable section
/-- Ten cells put at a place. -/
def set10 (cs : List AV) (k : Nat) (v0 v1 v2 v3 v4 v5 v6 v7 v8 v9 : AV) : List AV := (((((((((cs.set k v0).set (k + 1) v1).set (k + 2) v2).set (k + 3) v3).set (k + 4) v4).set (k + 5) v5).set (k + 6) v6).set (k + 7) v7).set (k + 8) v8).set (k + 9) v9
theorem mapM_set {g : AV → Option AV} : ∀ {cs ts : List AV} (k : Nat) {v t : AV}, cs.mapM g = some ts → g v = some t → (cs.set k v).mapM g = some (ts.set k t) := by
  intro cs
  induction cs with
  | nil => intro ts k v t h _; simp at h; subst h; simp
  | cons y cs ih =>
    intro ts k v t h hv
    obtain ⟨b, bs, h1, h2, rfl⟩ := mapM_cons_some.1 h
    cases k with
    | zero => exact mapM_cons_some.2 ⟨_, _, hv, h2, rfl⟩
    | succ k => exact mapM_cons_some.2 ⟨_, _, h1, ih k h2 hv, rfl⟩
theorem mapM_set10 {g : AV → Option AV} {cs ts : List AV} (k : Nat) {v0 v1 v2 v3 v4 v5 v6 v7 v8 v9 t0 t1 t2 t3 t4 t5 t6 t7 t8 t9 : AV} (h : cs.mapM g = some ts) (h0 : [v0, v1, v2, v3, v4, v5, v6, v7, v8, v9].mapM g = some [t0, t1, t2, t3, t4, t5, t6, t7, t8, t9]) :
    (set10 cs k v0 v1 v2 v3 v4 v5 v6 v7 v8 v9).mapM g = some (set10 ts k t0 t1 t2 t3 t4 t5 t6 t7 t8 t9) := by
  simp only [mapM_cons_some, List.cons.injEq] at h0
  obtain ⟨a0, b0, e0, ⟨a1, b1, e1, ⟨a2, b2, e2, ⟨a3, b3, e3, ⟨a4, b4, e4, ⟨a5, b5, e5, ⟨a6, b6, e6, ⟨a7, b7, e7, ⟨a8, b8, e8, ⟨a9, b9, e9, e10, f9⟩, f8⟩, f7⟩, f6⟩, f5⟩, f4⟩, f3⟩, f2⟩, f1⟩, f0⟩ := h0
  obtain ⟨rfl, rfl⟩ := f0
  obtain ⟨rfl, rfl⟩ := f1
  obtain ⟨rfl, rfl⟩ := f2
  obtain ⟨rfl, rfl⟩ := f3
  obtain ⟨rfl, rfl⟩ := f4
  obtain ⟨rfl, rfl⟩ := f5
  obtain ⟨rfl, rfl⟩ := f6
  obtain ⟨rfl, rfl⟩ := f7
  obtain ⟨rfl, rfl⟩ := f8
  obtain ⟨rfl, -⟩ := f9
  unfold set10
  exact mapM_set _ (mapM_set _ (mapM_set _ (mapM_set _ (mapM_set _ (mapM_set _ (mapM_set _ (mapM_set _ (mapM_set _ (mapM_set _ h e0) e1) e2) e3) e4) e5) e6) e7) e8) e9
theorem set10_rows (v0 v1 v2 v3 v4 v5 v6 v7 v8 v9 : AV) : ∀ (rows : List (List AV)) (i : Nat), (∀ r ∈ rows, r.length = 10) → i < rows.length → set10 rows.flatten (i * 10) v0 v1 v2 v3 v4 v5 v6 v7 v8 v9 = (rows.set i [v0, v1, v2, v3, v4, v5, v6, v7, v8, v9]).flatten := by
  intro rows
  induction rows with
  | nil => intro i _ h; simp at h
  | cons r rs ih =>
    intro i hl hi
    have hr := hl r (by simp)
    cases i with
    | zero =>
      match r, hr with
      | [a0, a1, a2, a3, a4, a5, a6, a7, a8, a9], _ => simp [set10]
    | succ i =>
      have := ih i (fun x hx => hl x (by simp [hx])) (by simpa using hi)
      have hs : ∀ (cs : List AV) (k : Nat) (v : AV), (r ++ cs).set (10 + k) v = r ++ cs.set k v := fun cs k v => by
        rw [List.set_append_right _ _ (by omega)]; congr 2; omega
      simp only [List.flatten_cons, List.set_cons_succ, ← this]
      unfold set10
      rw [show (i + 1) * 10 = 10 + i * 10 by omega]
      simp only [Nat.add_assoc, hs]
theorem allM_ok {l : List Int} (hb : Eng.Bytes l) (hl : l.length ≤ 1000) : (allM l).1.length ≤ 1000 ∧ ∀ x ∈ (allM l).1, x.ok 1048576 := by
  unfold allM
  cases l with
  | nil => exact ⟨by simp, by simp⟩
  | cons c r =>
    simp only
    split
    · exact ⟨by simp, by simp⟩
    · rename_i hc
      simp only [List.length_cons] at hl
      cases hd : decN c.toNat r with
      | none => exact ⟨by simp, by simp⟩
      | some p =>
        obtain ⟨ms, rest⟩ := p
        obtain ⟨i1, i2, -, -⟩ := decN_ok (r := r) (fun z hz => hb z (by simp [hz])) (by omega) _ _ hd
        have := hb c (by simp)
        exact ⟨by simp only at i1; show ms.length ≤ 1000; omega, fun x hx => (i2 x hx).1⟩
theorem mat_two' {n : Nat} {ts : List (List AV)} {y : Value} {H : Hp} {q : Option (AV × Hp)} (hq : mat depthD (.tup [.lst false ts, .v y]) H = q) (hg : MatG n (.lst false ts)) (hy : MatG n (.v y)) (hn : n ≤ 11) : ∃ z H', q = some (.tup [z, .v y], H') ∧ Ext H H' ∧ Laid H' H.g H'.g [.lst false ts] [z] := by
  obtain ⟨zs, H', e, hx, hL⟩ := mat_lay n 11 hn [.lst false ts, .v y] (fun t ht => by
    simp only [List.mem_cons, List.not_mem_nil, or_false] at ht
    rcases ht with rfl | rfl
    · exact hg
    · exact hy) H
  obtain ⟨z, zs', mid, rfl, l1, l2, L1, L2⟩ := hL.invL
  obtain ⟨zs'', rfl, L3⟩ := L2.invV
  obtain rfl := L3.invN
  refine ⟨z, H', ?_, hx, L1.high l2⟩
  rw [← hq, show depthD = 11 + 1 from rfl, mat_tup, e]; rfl
theorem tup_deep {H : Hp} {x y s t : AV} (h1 : deep H 11 x = some s) (h2 : deep H 11 y = some t) : deep H depthD (.tup [x, y]) = some (.tup [s, t]) := by
  show ([x, y].mapM (deep H 11)).map AV.tup = _
  simp only [List.mapM_cons, List.mapM_nil, h1, h2, Option.pure_def, Option.bind_eq_bind, Option.bind_some, Option.map_some]
section
variable {code : List Int}
theorem ok_DrawSM : fnOk Try.prog cfg0 21 Try.f21 = true := by kernel_rfl
theorem c_DrawSM (hco : CodeOk code) : ∃ A B : List MessageM, ((A.length ≤ 1048576 ∧ ∀ x ∈ A, x.ok 1048576) ∧ (B.length ≤ 1048576 ∧ ∀ x ∈ B, x.ok 1048576)) ∧ ∀ H, call Try.prog cfg0 0 21 [bytesL code] H = some (.tup [.lst false (A.map encMessage), .lst false (B.map encMessage)], H) := by
  have key : ∃ v cl, (∃ A B : List MessageM, ((A.length ≤ 1048576 ∧ ∀ x ∈ A, x.ok 1048576) ∧ (B.length ≤ 1048576 ∧ ∀ x ∈ B, x.ok 1048576)) ∧ v = .tup [.lst false (A.map encMessage), .lst false (B.map encMessage)]) ∧ pure Try.prog cfg0 21 Try.f21 [bytesL code] = some (v, cl) := by
    refine pure_ex (rs := [.tmp 2, .tmp 3]) rfl rfl ?_
    have hp0 : ∀ b, cfg0.pol 21 b = (if b = 15 then 1 else 0) := fun b => rfl
    repeat' ((fail_if_success (first | refine wAt 2 ?_)); first | ((first | refine wSeqr (fun xx hx => ?_) | refine wSeqrF (fun xx hx => ?_) | refine wIf (fun xx hx => ?_) | refine wReg (fun xx hx => ?_) | refine wRegF (fun xx hx => ?_) | (refine wRet ?_; (try simp only [thenQ, blockQ]); (try (subst hQQ; (try simp only [thenQ, blockQ]))); refine ends_by (fun xx hx => ?_))); have hc := trivial; (repeat' (simp only [hc, Nat.reduceBEq, go_sem, Nat.reduceAdd, Nat.reduceMul, Nat.reduceSub, Nat.reduceEqDiff, Nat.reduceLT, Nat.reduceLeDiff, Int.reduceEq, Int.reduceLT, Int.reduceLE, reduceIte, aresults, aresult, hp0, d_Source code] at hx; (try ((first | rw [guardL_if] at hx | rw [guardF_if] at hx); split at hx <;> rename_i hc)))); all_goals (subst hx; first | (refine ⟨_, rfl, fun ht => ?_, fun ht => ?_⟩ <;> (try simp only [Bool.not_eq_true', Bool.not_eq_false', Bool.and_eq_true, Bool.and_eq_false_iff, Bool.or_eq_true, Bool.or_eq_false_iff, decide_eq_true_eq, decide_eq_false_iff_not, beq_iff_eq, bne_iff_ne, Bool.not_true, Bool.not_false, Bool.true_eq_false, Bool.false_eq_true, ne_eq, Decidable.not_not, inB_t, inB_f] at ht)) | (refine ⟨_, rfl, ?_⟩; (try simp only [tupOf])))) | refine wSkip ?_ | (refine wExit ?_; simp only [thenQ, blockQ, reduceIte, Nat.reduceEqDiff]) | refine wSeq ?_ | refine wBlock ?_ | (subst hQQ; (try simp only [thenQ, blockQ, reduceIte, Nat.reduceEqDiff])))
    (first | refine wSeqr (fun xx hx => ?_) | refine wSeqrF (fun xx hx => ?_) | refine wReg (fun xx hx => ?_) | refine wRegF (fun xx hx => ?_)); have hc := trivial; (repeat' (simp only [hc, Nat.reduceBEq, go_sem, Nat.reduceAdd, Nat.reduceMul, Nat.reduceSub, Nat.reduceEqDiff, Nat.reduceLT, Nat.reduceLeDiff, Int.reduceEq, Int.reduceLT, Int.reduceLE, reduceIte, aresults, aresult, hp0] at hx; (try ((first | rw [guardL_if] at hx | rw [guardF_if] at hx); split at hx <;> rename_i hc)))); generalize hq : call Try.prog cfg0 0 _ _ _ = q at hx
    obtain ⟨x, H2, rows, rfl, hD, hlen, hoff, ⟨a1, -, ha1, S2⟩, F2⟩ := d_List hco (a := 0) (H := Hp.nil.new [bytesL code, .v (.int .i64 ((0 : Nat) : Int))]) ⟨new_same _ _, by simp⟩ (by omega) hq
    clear hq
    have hms := DL.ms hD
    have hln : (rows.map Prod.fst).length ≤ 100 := by simp; omega
    have hx0 : Off 0 x := hoff 0 (by show 0 < 1; omega)
    have hal := allP_len (xs := rows.map Prod.fst) (fun m hm => ⟨(hms m hm).2.1, by have := (hms m hm).2.2.2; omega⟩) hln (rows.map Prod.fst).length
    have hal2 : (allB (rows.map Prod.fst)).length ≤ 1 + 112 * 6 := by
      have : (rows.map Prod.fst).length ≤ 6 := by simp; omega
      unfold allB; omega
    have hA : ∀ x ∈ rows.map Prod.fst, x.ok 1048576 := fun m hm => (hms m hm).2.2.1
    have hab := allB_bytes fun m hm => (hms m hm).nb
    have hBok := allM_ok hab (by omega)
    have hAl := call_of (p := 0) (H := H2) Try.func47 rfl ok_sl7All rfl (by omega) (mapM_c (DL.deep hD 9) mapM_n) (p_sl7All (rows.map Prod.fst) (fun m hm => ⟨(hms m hm).2.1, by have := (hms m hm).2.2.2; omega⟩) hln) (.inl rfl)
    have hMe := o_sl7Messages (allB (rows.map Prod.fst)) hab (by omega)
    generalize hB : (allM (allB (rows.map Prod.fst))).1 = B at hMe hBok
    generalize hBb : (allM (allB (rows.map Prod.fst))).2 = okb at hMe
    have hc := trivial; (repeat' (simp only [hc, Nat.reduceBEq, go_sem, Nat.reduceAdd, Nat.reduceMul, Nat.reduceSub, Nat.reduceEqDiff, Nat.reduceLT, Nat.reduceLeDiff, Int.reduceEq, Int.reduceLT, Int.reduceLE, reduceIte, aresults, aresult, hp0] at hx; (try ((first | rw [guardL_if] at hx | rw [guardF_if] at hx); split at hx <;> rename_i hc)))); all_goals (subst hx; refine ⟨_, rfl, ?_⟩)
    repeat' ((fail_if_success (first | refine wAt 3 ?_)); first | ((first | refine wSeqr (fun xx hx => ?_) | refine wSeqrF (fun xx hx => ?_) | refine wIf (fun xx hx => ?_) | refine wReg (fun xx hx => ?_) | refine wRegF (fun xx hx => ?_) | (refine wRet ?_; (try simp only [thenQ, blockQ]); (try (subst hQQ; (try simp only [thenQ, blockQ]))); refine ends_by (fun xx hx => ?_))); have hc := trivial; (repeat' (simp only [hc, Nat.reduceBEq, go_sem, Nat.reduceAdd, Nat.reduceMul, Nat.reduceSub, Nat.reduceEqDiff, Nat.reduceLT, Nat.reduceLeDiff, Int.reduceEq, Int.reduceLT, Int.reduceLE, reduceIte, aresults, aresult, hp0] at hx; (try ((first | rw [guardL_if] at hx | rw [guardF_if] at hx); split at hx <;> rename_i hc)))); all_goals (subst hx; first | (refine ⟨_, rfl, fun ht => ?_, fun ht => ?_⟩ <;> (try simp only [Bool.not_eq_true', Bool.not_eq_false', Bool.and_eq_true, Bool.and_eq_false_iff, Bool.or_eq_true, Bool.or_eq_false_iff, decide_eq_true_eq, decide_eq_false_iff_not, beq_iff_eq, bne_iff_ne, Bool.not_true, Bool.not_false, Bool.true_eq_false, Bool.false_eq_true, ne_eq, Decidable.not_not, inB_t, inB_f] at ht)) | (refine ⟨_, rfl, ?_⟩; (try simp only [tupOf])))) | refine wSkip ?_ | (refine wExit ?_; simp only [thenQ, blockQ, reduceIte, Nat.reduceEqDiff]) | refine wSeq ?_ | refine wBlock ?_ | (subst hQQ; (try simp only [thenQ, blockQ, reduceIte, Nat.reduceEqDiff])))
    (first | refine wSeqr (fun xx hx => ?_) | refine wSeqrF (fun xx hx => ?_) | refine wReg (fun xx hx => ?_) | refine wRegF (fun xx hx => ?_)); have hc := trivial; (repeat' (simp only [hc, Nat.reduceBEq, go_sem, Nat.reduceAdd, Nat.reduceMul, Nat.reduceSub, Nat.reduceEqDiff, Nat.reduceLT, Nat.reduceLeDiff, Int.reduceEq, Int.reduceLT, Int.reduceLE, reduceIte, aresults, aresult, hp0, hAl, hMe] at hx; (try ((first | rw [guardL_if] at hx | rw [guardF_if] at hx); split at hx <;> rename_i hc)))); generalize hq : mat depthD _ _ = q at hx
    obtain ⟨z, H3, rfl, hx3, hL⟩ := mat_two' hq (gR_Message 7 B) (MatG.bool 9 okb) (by omega)
    clear hq
    have zok := okc_laid hL
    have hg3 := hx3.1
    have hD3 : DL H3 x rows := ⟨hD.1.ext hx3, hD.2⟩
    have S3 : Src H3 0 code a1 := S2.ext hg3 (hx3.2 0 S2.2)
    have hc := trivial; (repeat' (simp only [hc, Nat.reduceBEq, go_sem, Nat.reduceAdd, Nat.reduceMul, Nat.reduceSub, Nat.reduceEqDiff, Nat.reduceLT, Nat.reduceLeDiff, Int.reduceEq, Int.reduceLT, Int.reduceLE, reduceIte, aresults, aresult, hp0] at hx; (try ((first | rw [guardL_if] at hx | rw [guardF_if] at hx); split at hx <;> rename_i hc)))); all_goals (subst hx; refine ⟨_, rfl, ?_⟩)
    rcases hL.inv1 with ⟨hr0, rfl⟩ | ⟨b, sz, cs, hne, rfl, hsz, hcl, hb1, hb2, hLc, hbc⟩
    · have i0l : (0 < ((0 : Nat) : Int)) = False := by simp
      have hB0 : B = [] := List.map_eq_nil_iff.1 hr0
      subst hB0
      repeat' (first | ((first | refine wSeqr (fun xx hx => ?_) | refine wSeqrF (fun xx hx => ?_) | refine wIf (fun xx hx => ?_) | refine wReg (fun xx hx => ?_) | refine wRegF (fun xx hx => ?_) | (refine wRet ?_; (try simp only [thenQ, blockQ]); (try (subst hQQ; (try simp only [thenQ, blockQ]))); refine ends_by (fun xx hx => ?_))); have hc := trivial; (repeat' (simp only [hc, Nat.reduceBEq, go_sem, Nat.reduceAdd, Nat.reduceMul, Nat.reduceSub, Nat.reduceEqDiff, Nat.reduceLT, Nat.reduceLeDiff, Int.reduceEq, Int.reduceLT, Int.reduceLE, reduceIte, aresults, aresult, hp0, List.length_nil, i0l] at hx; (try ((first | rw [guardL_if] at hx | rw [guardF_if] at hx); split at hx <;> rename_i hc)))); all_goals (subst hx; first | (refine ⟨_, rfl, fun ht => ?_, fun ht => ?_⟩ <;> (try simp only [Bool.not_eq_true', Bool.not_eq_false', Bool.and_eq_true, Bool.and_eq_false_iff, Bool.or_eq_true, Bool.or_eq_false_iff, decide_eq_true_eq, decide_eq_false_iff_not, beq_iff_eq, bne_iff_ne, Bool.not_true, Bool.not_false, Bool.true_eq_false, Bool.false_eq_true, ne_eq, Decidable.not_not, inB_t, inB_f] at ht)) | (refine ⟨_, rfl, ?_⟩; (try simp only [tupOf])))) | refine wSkip ?_ | (refine wExit ?_; simp only [thenQ, blockQ, reduceIte, Nat.reduceEqDiff]) | refine wSeq ?_ | refine wBlock ?_ | (subst hQQ; (try simp only [thenQ, blockQ, reduceIte, Nat.reduceEqDiff])))
      all_goals try (exfalso; (try simp only [Bool.not_eq_true', Bool.not_eq_false', Bool.and_eq_true, Bool.and_eq_false_iff, Bool.or_eq_true, Bool.or_eq_false_iff, decide_eq_true_eq, decide_eq_false_iff_not, beq_iff_eq, bne_iff_ne, Bool.not_true, Bool.not_false, Bool.true_eq_false, Bool.false_eq_true, ne_eq, Decidable.not_not, inB_t, inB_f] at *); first | omega | exact absurd trivial (by assumption))
      exact ⟨_, _, ⟨rows.map Prod.fst, [], ⟨⟨by omega, hA⟩, by simp, by simp⟩, rfl⟩, tup_deep (DL.deep (n := 8) hD3) rfl, rfl⟩
    · obtain ⟨m0, B', rfl⟩ : ∃ m0 B', B = m0 :: B' := by
        cases B with
        | nil => exact absurd rfl hne
        | cons m0 B' => exact ⟨_, _, rfl⟩
      have hs10 : sz = 10 := (hcl (encMessage m0) (by simp)).symm
      subst hs10
      have hBl : (List.map encMessage (m0 :: B')).length = B'.length + 1 := by simp
      have hBr : B'.length + 1 ≤ 1000 := by simpa using hBok.1
      have iL : (0 < ((B'.length + 1 : Nat) : Int)) = True := eq_true (by omega)
      have hcs := hLc.len
      have hcs2 : cs.length = (B'.length + 1) * 10 := by
        rw [hcs]
        have : ∀ l : List MessageM, ((l.map encMessage).flatten).length = l.length * 10 := fun l => by
          induction l with
          | nil => rfl
          | cons y l ih => simp only [List.map_cons, List.flatten_cons, List.length_append, ih, List.length_cons]; show 10 + _ = _; omega
        rw [this]; rfl
      have hdz : ∀ {K : Hp}, (∀ p, H2.g ≤ p → p < b → K.h p = H3.h p) → cs.mapM (deep K 10) = some ((m0 :: B').map encMessage).flatten := fun hk =>
        ((hLc.keep fun p h1 h2 => hk p h1 h2).deep 9 10 (fun t ht => by
          obtain ⟨l, hl, ht⟩ := List.mem_flatten.1 ht
          obtain ⟨m, -, rfl⟩ := List.mem_map.1 hl
          exact gE_Message 7 m t ht) (by omega)).1
      have hgl : ∀ {K : Hp} (zs : List AV) (C : List MessageM), K.h b = some zs → zs.mapM (deep K 10) = some ((C.map encMessage).flatten) → C.length = B'.length + 1 → zs.length = (B'.length + 1) * 10 → deep K 11 (.sl b 10 0 (B'.length + 1)) = some (.lst false (C.map encMessage)) := fun {K} zs C h1 h2 h3 h4 => by
        show ((K.h b).bind fun cs => if 0 + (B'.length + 1) * 10 ≤ cs.length ∧ 0 < 10 then (((cs.drop 0).take ((B'.length + 1) * 10)).mapM (deep K 10)).map fun ds => AV.lst false (chunk 10 (B'.length + 1) ds) else none) = _
        simp only [h1, Option.bind_some, List.drop_zero]
        rw [if_pos ⟨by omega, by omega⟩, List.take_of_length_le (by omega), h2]
        have h5 := chunk_flat 10 (C.map encMessage) (fun c hc => by obtain ⟨m, -, rfl⟩ := List.mem_map.1 hc; rfl)
        rw [List.length_map, h3] at h5
        simp only [Option.map_some, h5]
      rw [hBl]
      repeat' ((fail_if_success (first | refine wAt 4 ?_)); first | ((first | refine wSeqr (fun xx hx => ?_) | refine wSeqrF (fun xx hx => ?_) | refine wIf (fun xx hx => ?_) | refine wReg (fun xx hx => ?_) | refine wRegF (fun xx hx => ?_) | (refine wRet ?_; (try simp only [thenQ, blockQ]); (try (subst hQQ; (try simp only [thenQ, blockQ]))); refine ends_by (fun xx hx => ?_))); have hc := trivial; (repeat' (simp only [hc, Nat.reduceBEq, go_sem, Nat.reduceAdd, Nat.reduceMul, Nat.reduceSub, Nat.reduceEqDiff, Nat.reduceLT, Nat.reduceLeDiff, Int.reduceEq, Int.reduceLT, Int.reduceLE, reduceIte, aresults, aresult, hp0, hBl, iL] at hx; (try ((first | rw [guardL_if] at hx | rw [guardF_if] at hx); split at hx <;> rename_i hc)))); all_goals (subst hx; first | (refine ⟨_, rfl, fun ht => ?_, fun ht => ?_⟩ <;> (try simp only [Bool.not_eq_true', Bool.not_eq_false', Bool.and_eq_true, Bool.and_eq_false_iff, Bool.or_eq_true, Bool.or_eq_false_iff, decide_eq_true_eq, decide_eq_false_iff_not, beq_iff_eq, bne_iff_ne, Bool.not_true, Bool.not_false, Bool.true_eq_false, Bool.false_eq_true, ne_eq, Decidable.not_not, inB_t, inB_f] at ht)) | (refine ⟨_, rfl, ?_⟩; (try simp only [tupOf])))) | refine wSkip ?_ | (refine wExit ?_; simp only [thenQ, blockQ, reduceIte, Nat.reduceEqDiff]) | refine wSeq ?_ | refine wBlock ?_ | (subst hQQ; (try simp only [thenQ, blockQ, reduceIte, Nat.reduceEqDiff])))
      (first | refine wSeqr (fun xx hx => ?_) | refine wSeqrF (fun xx hx => ?_) | refine wReg (fun xx hx => ?_) | refine wRegF (fun xx hx => ?_)); have hc := trivial; (repeat' (simp only [hc, Nat.reduceBEq, go_sem, Nat.reduceAdd, Nat.reduceMul, Nat.reduceSub, Nat.reduceEqDiff, Nat.reduceLT, Nat.reduceLeDiff, Int.reduceEq, Int.reduceLT, Int.reduceLE, reduceIte, aresults, aresult, hp0, iL] at hx; (try ((first | rw [guardL_if] at hx | rw [guardF_if] at hx); split at hx <;> rename_i hc)))); generalize hq : call Try.prog cfg0 0 _ _ _ = q at hx
      obtain ⟨v, H4, rfl, S4, F4, G4⟩ := d_Chance hco S3 (by omega) (by omega) hq
      clear hq
      have hbs : 0 < b := by have := S2.2; have : 0 < H2.g := this; omega
      have hb4 : H4.h b = some cs := (F4.2 b hb2 (by show b ≠ 0; omega)).trans hbc
      have hs0 : 0 < H2.g := S2.2
      have hk4 : ∀ p, H2.g ≤ p → p < b → H4.h p = H3.h p := fun p h1 h2 => F4.2 p (by omega) (by show p ≠ 0; omega)
      have hr4 : RAcc H4 x 10 (drows rows) rows.length := hD3.1.keep F4.1 fun p hp ho => F4.2 p hp (fun e => ho (e ▸ hx0))
      have hc := trivial; (repeat' (simp only [hc, Nat.reduceBEq, go_sem, Nat.reduceAdd, Nat.reduceMul, Nat.reduceSub, Nat.reduceEqDiff, Nat.reduceLT, Nat.reduceLeDiff, Int.reduceEq, Int.reduceLT, Int.reduceLE, reduceIte, aresults, aresult, hp0, iL] at hx; (try ((first | rw [guardL_if] at hx | rw [guardF_if] at hx); split at hx <;> rename_i hc)))); all_goals (subst hx; refine ⟨_, rfl, ?_⟩)
      cases v with
      | false =>
        repeat' (first | ((first | refine wSeqr (fun xx hx => ?_) | refine wSeqrF (fun xx hx => ?_) | refine wIf (fun xx hx => ?_) | refine wReg (fun xx hx => ?_) | refine wRegF (fun xx hx => ?_) | (refine wRet ?_; (try simp only [thenQ, blockQ]); (try (subst hQQ; (try simp only [thenQ, blockQ]))); refine ends_by (fun xx hx => ?_))); have hc := trivial; (repeat' (simp only [hc, Nat.reduceBEq, go_sem, Nat.reduceAdd, Nat.reduceMul, Nat.reduceSub, Nat.reduceEqDiff, Nat.reduceLT, Nat.reduceLeDiff, Int.reduceEq, Int.reduceLT, Int.reduceLE, reduceIte, aresults, aresult, hp0] at hx; (try ((first | rw [guardL_if] at hx | rw [guardF_if] at hx); split at hx <;> rename_i hc)))); all_goals (subst hx; first | (refine ⟨_, rfl, fun ht => ?_, fun ht => ?_⟩ <;> (try simp only [Bool.not_eq_true', Bool.not_eq_false', Bool.and_eq_true, Bool.and_eq_false_iff, Bool.or_eq_true, Bool.or_eq_false_iff, decide_eq_true_eq, decide_eq_false_iff_not, beq_iff_eq, bne_iff_ne, Bool.not_true, Bool.not_false, Bool.true_eq_false, Bool.false_eq_true, ne_eq, Decidable.not_not, inB_t, inB_f] at ht)) | (refine ⟨_, rfl, ?_⟩; (try simp only [tupOf])))) | refine wSkip ?_ | (refine wExit ?_; simp only [thenQ, blockQ, reduceIte, Nat.reduceEqDiff]) | refine wSeq ?_ | refine wBlock ?_ | (subst hQQ; (try simp only [thenQ, blockQ, reduceIte, Nat.reduceEqDiff])))
        all_goals try (exfalso; (try simp only [Bool.not_eq_true', Bool.not_eq_false', Bool.and_eq_true, Bool.and_eq_false_iff, Bool.or_eq_true, Bool.or_eq_false_iff, decide_eq_true_eq, decide_eq_false_iff_not, beq_iff_eq, bne_iff_ne, Bool.not_true, Bool.not_false, Bool.true_eq_false, Bool.false_eq_true, ne_eq, Decidable.not_not, inB_t, inB_f] at *); first | omega | exact absurd trivial (by assumption))
        exact ⟨_, _, ⟨rows.map Prod.fst, m0 :: B', ⟨⟨by omega, hA⟩, by simp; omega, hBok.2⟩, rfl⟩, tup_deep (DL.deep (n := 8) ⟨hr4, hD.2⟩) (hgl cs (m0 :: B') hb4 (hdz hk4) rfl hcs2), rfl⟩
      | true =>
        repeat' ((fail_if_success (first | refine wAt 5 ?_)); first | ((first | refine wSeqr (fun xx hx => ?_) | refine wSeqrF (fun xx hx => ?_) | refine wIf (fun xx hx => ?_) | refine wReg (fun xx hx => ?_) | refine wRegF (fun xx hx => ?_) | (refine wRet ?_; (try simp only [thenQ, blockQ]); (try (subst hQQ; (try simp only [thenQ, blockQ]))); refine ends_by (fun xx hx => ?_))); have hc := trivial; (repeat' (simp only [hc, Nat.reduceBEq, go_sem, Nat.reduceAdd, Nat.reduceMul, Nat.reduceSub, Nat.reduceEqDiff, Nat.reduceLT, Nat.reduceLeDiff, Int.reduceEq, Int.reduceLT, Int.reduceLE, reduceIte, aresults, aresult, hp0] at hx; (try ((first | rw [guardL_if] at hx | rw [guardF_if] at hx); split at hx <;> rename_i hc)))); all_goals (subst hx; first | (refine ⟨_, rfl, fun ht => ?_, fun ht => ?_⟩ <;> (try simp only [Bool.not_eq_true', Bool.not_eq_false', Bool.and_eq_true, Bool.and_eq_false_iff, Bool.or_eq_true, Bool.or_eq_false_iff, decide_eq_true_eq, decide_eq_false_iff_not, beq_iff_eq, bne_iff_ne, Bool.not_true, Bool.not_false, Bool.true_eq_false, Bool.false_eq_true, ne_eq, Decidable.not_not, inB_t, inB_f] at ht)) | (refine ⟨_, rfl, ?_⟩; (try simp only [tupOf])))) | refine wSkip ?_ | (refine wExit ?_; simp only [thenQ, blockQ, reduceIte, Nat.reduceEqDiff]) | refine wSeq ?_ | refine wBlock ?_ | (subst hQQ; (try simp only [thenQ, blockQ, reduceIte, Nat.reduceEqDiff])))
        all_goals try (exfalso; (try simp only [Bool.not_eq_true', Bool.not_eq_false', Bool.and_eq_true, Bool.and_eq_false_iff, Bool.or_eq_true, Bool.or_eq_false_iff, decide_eq_true_eq, decide_eq_false_iff_not, beq_iff_eq, bne_iff_ne, Bool.not_true, Bool.not_false, Bool.true_eq_false, Bool.false_eq_true, ne_eq, Decidable.not_not, inB_t, inB_f] at *); first | omega | exact absurd trivial (by assumption))
        (first | refine wSeqr (fun xx hx => ?_) | refine wSeqrF (fun xx hx => ?_) | refine wReg (fun xx hx => ?_) | refine wRegF (fun xx hx => ?_)); have hc := trivial; (repeat' (simp only [hc, Nat.reduceBEq, go_sem, Nat.reduceAdd, Nat.reduceMul, Nat.reduceSub, Nat.reduceEqDiff, Nat.reduceLT, Nat.reduceLeDiff, Int.reduceEq, Int.reduceLT, Int.reduceLE, reduceIte, aresults, aresult, hp0] at hx; (try ((first | rw [guardL_if] at hx | rw [guardF_if] at hx); split at hx <;> rename_i hc)))); generalize hq : call Try.prog cfg0 0 _ _ _ = q at hx
        obtain ⟨v, H5, rfl, y5, S5, F5, G5⟩ := d_Next hco S4 (by omega) (by omega) hq
        clear hq
        have y6 := y5.2.1 (by omega)
        have fg4 := F4.1
        have fg5 := F5.1
        have hc := trivial; (repeat' (simp only [hc, Nat.reduceBEq, go_sem, Nat.reduceAdd, Nat.reduceMul, Nat.reduceSub, Nat.reduceEqDiff, Nat.reduceLT, Nat.reduceLeDiff, Int.reduceEq, Int.reduceLT, Int.reduceLE, reduceIte, aresults, aresult, hp0] at hx; (try ((first | rw [guardL_if] at hx | rw [guardF_if] at hx); split at hx <;> rename_i hc)))); generalize hq : call Try.prog cfg0 0 _ _ _ = q at hx
        obtain ⟨w, H6, rfl, m, y, rfl, by1, by2, ⟨a6, -, -, S6⟩, F6⟩ := d_Draw hco S5 (by omega) hq
        clear hq
        have F46 := F5.trans F6
        have hb6 : H6.h b = some cs := (F46.2 b (by omega) (by show b ≠ 0; omega)).trans hb4
        have hnat : natOf (.v (.int .i64 v)) = some v.toNat := by simp only [natOf]; rw [if_pos y5.1]
        have hvl : v.toNat < B'.length + 1 := by omega
        have hvl2 : v.toNat * 10 + 10 ≤ cs.length := by omega
        have yok := by1.ok
        simp only [mcells] at hx
        have hc := trivial; (repeat' (simp only [hc, Nat.reduceBEq, go_sem, Nat.reduceAdd, Nat.reduceMul, Nat.reduceSub, Nat.reduceEqDiff, Nat.reduceLT, Nat.reduceLeDiff, Int.reduceEq, Int.reduceLT, Int.reduceLE, reduceIte, aresults, aresult, hp0, hnat, hb6, hvl, hvl2, yok.1, yok.2, Option.isSome_some] at hx; (try ((first | rw [guardL_if] at hx | rw [guardF_if] at hx); split at hx <;> rename_i hc)))); all_goals (subst hx; refine ⟨_, rfl, ?_⟩)
        repeat' (first | ((first | refine wSeqr (fun xx hx => ?_) | refine wSeqrF (fun xx hx => ?_) | refine wIf (fun xx hx => ?_) | refine wReg (fun xx hx => ?_) | refine wRegF (fun xx hx => ?_) | (refine wRet ?_; (try simp only [thenQ, blockQ]); (try (subst hQQ; (try simp only [thenQ, blockQ]))); refine ends_by (fun xx hx => ?_))); have hc := trivial; (repeat' (simp only [hc, Nat.reduceBEq, go_sem, Nat.reduceAdd, Nat.reduceMul, Nat.reduceSub, Nat.reduceEqDiff, Nat.reduceLT, Nat.reduceLeDiff, Int.reduceEq, Int.reduceLT, Int.reduceLE, reduceIte, aresults, aresult, hp0] at hx; (try ((first | rw [guardL_if] at hx | rw [guardF_if] at hx); split at hx <;> rename_i hc)))); all_goals (subst hx; first | (refine ⟨_, rfl, fun ht => ?_, fun ht => ?_⟩ <;> (try simp only [Bool.not_eq_true', Bool.not_eq_false', Bool.and_eq_true, Bool.and_eq_false_iff, Bool.or_eq_true, Bool.or_eq_false_iff, decide_eq_true_eq, decide_eq_false_iff_not, beq_iff_eq, bne_iff_ne, Bool.not_true, Bool.not_false, Bool.true_eq_false, Bool.false_eq_true, ne_eq, Decidable.not_not, inB_t, inB_f] at ht)) | (refine ⟨_, rfl, ?_⟩; (try simp only [tupOf])))) | refine wSkip ?_ | (refine wExit ?_; simp only [thenQ, blockQ, reduceIte, Nat.reduceEqDiff]) | refine wSeq ?_ | refine wBlock ?_ | (subst hQQ; (try simp only [thenQ, blockQ, reduceIte, Nat.reduceEqDiff])))
        all_goals try (exfalso; (try simp only [Bool.not_eq_true', Bool.not_eq_false', Bool.and_eq_true, Bool.and_eq_false_iff, Bool.or_eq_true, Bool.or_eq_false_iff, decide_eq_true_eq, decide_eq_false_iff_not, beq_iff_eq, bne_iff_ne, Bool.not_true, Bool.not_false, Bool.true_eq_false, Bool.false_eq_true, ne_eq, Decidable.not_not, inB_t, inB_f] at *); first | omega | exact absurd trivial (by assumption))
        have hk6 : ∀ p, H2.g ≤ p → p < b → H6.h p = H3.h p := fun p h1 h2 => (F46.2 p (by omega) (by show p ≠ 0; omega)).trans (hk4 p h1 h2)
        have hxb : Off b x := RAcc.offHi hD.1 hb1
        have hr6 : RAcc H6 x 10 (drows rows) rows.length := hr4.keep F46.1 fun p hp ho => F46.2 p hp (fun e => ho (e ▸ hx0))
        have hfin : ∀ Z, Z = set10 cs (v.toNat * 10) (.v (.int .i64 m.Kind)) (.v (.int .i64 m.Seq)) (.v (.int .i64 m.Node)) (.v (.int .i64 m.Claim.Node)) (.v (.int .i64 m.Claim.Inc)) (.v (.int .i64 m.Claim.Status)) (.v (.int .i64 m.Claim.Meta)) (.v (.int .i64 m.Op)) (.v (.int .i64 m.Key.Id)) y →
            deep (H6.set b Z) depthD (.tup [x, .sl b 10 0 (B'.length + 1)]) = some (.tup [.lst false ((rows.map Prod.fst).map encMessage), .lst false (((m0 :: B').set v.toNat m).map encMessage)]) := fun Z hZ => by
          have hz1 : cs.mapM (deep (H6.set b Z) 10) = some ((m0 :: B').map encMessage).flatten := hdz fun p h1 h2 => by rw [Hp.set_h, if_neg (by omega)]; exact hk6 p h1 h2
          have hz2 := mapM_set10 (v.toNat * 10) hz1 (mc_deep (n := 8) (by1.deep (H6.set b Z) 8))
          rw [set10_rows _ _ _ _ _ _ _ _ _ _ _ _ (fun r hr => by obtain ⟨m, -, rfl⟩ := List.mem_map.1 hr; rfl) (by simpa using hvl), ← hZ] at hz2
          refine tup_deep (DL.deep (n := 8) ⟨RAcc.setOff hr6 hxb Z, hD.2⟩) (hgl Z ((m0 :: B').set v.toNat m) (if_pos rfl) (by rw [hz2, List.map_set]; rfl) (by simp) (by rw [hZ]; unfold set10; simp only [List.length_set]; exact hcs2))
        refine ⟨_, _, ⟨rows.map Prod.fst, (m0 :: B').set v.toNat m, ⟨⟨by omega, hA⟩, by simp; omega, fun t ht => ?_⟩, rfl⟩, hfin _ rfl, rfl⟩
        rcases List.mem_or_eq_of_mem_set ht with ht | rfl
        · exact hBok.2 t ht
        · exact by2.2.2.1
  obtain ⟨v, cl, ⟨A, B, hm, rfl⟩, hp⟩ := key
  exact ⟨A, B, hm, fun H => call_fz Try.func21 rfl ok_DrawSM rfl (by simp only [fz_cons, fz_nil, go_sem, and_self]) hp H⟩
end
end
end Go.Proofs.Ytmpkcilehideiaa
