/- Contracts: draws of lists of messages. -/
import Derived.Test.YtmpkcilehideiaaR7
namespace Go.Proofs.Ytmpkcilehideiaa
open Go Go.RowKit Go.Proofs.Ytmpkcilehideiaa.Eng
set_option linter.unusedSimpArgs false
set_option linter.unusedVariables false
set_option maxRecDepth 100000
set_option maxHeartbeats 4000000
noncomputable section
theorem mapM_flat {α : Type} {f e : α → List AV} (g : AV → Option AV) : ∀ l : List α, (∀ k ∈ l, (f k).mapM g = some (e k)) → ((l.map f).flatten).mapM g = some ((l.map e).flatten) := by
  intro l
  induction l with
  | nil => intro _; rfl
  | cons y r ih =>
    intro h
    have h1 := h y (by simp)
    have h2 := ih fun k hk => h k (by simp [hk])
    simp only [List.map_cons, List.flatten_cons, List.mapM_append, h1, h2, Option.pure_def, Option.bind_eq_bind, Option.bind_some]
theorem mapM_len {g : AV → Option AV} : ∀ {l r : List AV}, l.mapM g = some r → r.length = l.length := by
  intro l
  induction l with
  | nil => intro r h; simp at h; subst h; rfl
  | cons y l ih =>
    intro r h
    obtain ⟨b, bs, h1, h2, rfl⟩ := mapM_cons_some.1 h
    simp [ih h2]
/-- What gathered rows read as. -/
theorem deep_rowsG {α : Type} {f e : α → List AV} {H : Hp} {x : AV} {sz n d : Nat} {l : List α} (h : RAcc H x sz ((l.map f).flatten) n) (hn : n = l.length) (hsz : 0 < sz) (hl : ∀ k ∈ l, (f k).length = sz) (hz : ∀ k ∈ l, (f k).mapM (deep H d) = some (e k)) : deep H (d + 1) x = some (.lst false (l.map e)) := by
  subst hn
  rcases h.2 with ⟨h0, h⟩ | ⟨b, hb, rfl, hh⟩
  · have hl0 : l = [] := List.length_eq_zero_iff.1 h0
    rw [hl0]
    rcases h with h | h <;> rw [h] <;> rfl
  · have hlen := h.1
    have h2 := mapM_flat (f := f) (e := e) (deep H d) l hz
    have h3 : chunk sz (l.map e).length (l.map e).flatten = l.map e := chunk_flat sz (l.map e) fun c hc => by
      obtain ⟨k, hk, rfl⟩ := List.mem_map.1 hc
      rw [mapM_len (hz k hk), hl k hk]
    rw [List.length_map] at h3
    simp only [deep, hh, Option.bind_some, List.drop_zero, ← hlen, List.take_length, h2, Option.map_some, h3, Nat.zero_add]
    rw [if_pos ⟨Nat.le_refl _, hsz⟩]
abbrev MRows := List (MessageM × AV)
def drows (rows : List (MessageM × AV)) : List AV := (rows.map fun r => mcells r.1 r.2).flatten
/-- What is told of a drawn message. -/
def DOk (m : MessageM) : Prop := (0 ≤ m.Kind ∧ m.Kind ≤ 5) ∧ msgNN m ∧ m.ok 1048576 ∧ m.Key.Bytes.length ≤ 16
/-- A list of drawn messages that is being gathered. -/
def DL (H : Hp) (x : AV) (rows : List (MessageM × AV)) : Prop := RAcc H x 10 (drows rows) rows.length ∧ ∀ r ∈ rows, BC r.2 r.1.Key.Bytes ∧ DOk r.1
theorem drows_add (rows : List (MessageM × AV)) (m : MessageM) (y : AV) : drows (rows ++ [(m, y)]) = drows rows ++ mcells m y := by simp [drows]
theorem DL.add {H : Hp} {x : AV} {rows : List (MessageM × AV)} {m : MessageM} {y : AV} (h : RAcc H x 10 (drows rows ++ mcells m y) (rows.length + 1)) (ho : ∀ r ∈ rows, BC r.2 r.1.Key.Bytes ∧ DOk r.1) (hb : BC y m.Key.Bytes) (hm : DOk m) : DL H x (rows ++ [(m, y)]) := by
  refine ⟨by rw [drows_add, List.length_append]; exact h, fun r hr => ?_⟩
  rcases List.mem_append.1 hr with hr | hr
  · exact ho r hr
  · simp only [List.mem_singleton] at hr; subst hr; exact ⟨hb, hm⟩
theorem mc_len (m : MessageM) (y : AV) : (mcells m y).length = 10 := rfl
theorem BC.deep {x : AV} {l : List Int} (h : BC x l) (H : Hp) (n : Nat) : Eng.deep H (n + 2) x = some (bytesL l) := by
  rcases h with ⟨rfl, rfl⟩ | rfl
  · rfl
  · exact (bytesL_fz n l).1 H
theorem mc_deep {H : Hp} {n : Nat} {m : MessageM} {y : AV} (h : Eng.deep H (n + 2) y = some (bytesL m.Key.Bytes)) : (mcells m y).mapM (Eng.deep H (n + 2)) = some (encMessage m) := by
  simp only [mcells, List.mapM_cons, List.mapM_nil, h, Option.pure_def, Option.bind_eq_bind, Option.bind_some]
  rfl
theorem DL.deep {H : Hp} {x : AV} {rows : List (MessageM × AV)} (h : DL H x rows) (n : Nat) : Eng.deep H (n + 3) x = some (.lst false ((rows.map Prod.fst).map encMessage)) := by
  have := deep_rowsG (e := fun r : MessageM × AV => encMessage r.1) (d := n + 2) h.1 rfl (by omega) (fun k _ => mc_len _ _) (fun k hk => mc_deep ((h.2 k hk).1.deep H n))
  rw [this, List.map_map]; rfl
section
variable {code : List Int} {a : Nat} {H : Hp} {b : Nat} {q : Option (AV × Hp)}
theorem ok_List : fnOk Try.prog cfg0 45 Try.f45 = true := by kernel_rfl
theorem d_List (hco : CodeOk code) (hS : Src H b code a) (ha : a ≤ 800000000) (hq : call Try.prog cfg0 0 45 [.ptr b 0] H = q) :
    ∃ (x : AV) (H' : Hp) (rows : List (MessageM × AV)), q = some (x, H') ∧ DL H' x rows ∧ rows.length ≤ 6 ∧ (∀ p, p < H.g → Off p x) ∧ (∃ a2, a ≤ a2 ∧ a2 ≤ a + 60 ∧ Src H' b code a2) ∧ Fr b H H' := by
  subst hq
  have key : ∃ r, body Try.prog cfg0 45 Try.f45 [.ptr b 0] H = some r ∧ (∃ (rows : List (MessageM × AV)), DL r.2 r.1 rows ∧ rows.length ≤ 6 ∧ (∀ p, p < H.g → Off p r.1) ∧ (∃ a2, a ≤ a2 ∧ a2 ≤ a + 60 ∧ Src r.2 b code a2) ∧ Fr b H r.2) := by
    refine body_wp (rs := [.tmp 2]) rfl rfl (R := fun x H' => ∃ (rows : List (MessageM × AV)), DL H' x rows ∧ rows.length ≤ 6 ∧ (∀ p, p < H.g → Off p x) ∧ (∃ a2, a ≤ a2 ∧ a2 ≤ a + 60 ∧ Src H' b code a2) ∧ Fr b H H') ?_
    have hp0 : ∀ b, cfg0.pol 45 b = 0 := fun b => rfl
    repeat' ((fail_if_success (first | refine wAt 2 ?_)); first | ((first | refine wSeqr (fun xx hx => ?_) | refine wSeqrF (fun xx hx => ?_) | refine wIf (fun xx hx => ?_) | refine wReg (fun xx hx => ?_) | refine wRegF (fun xx hx => ?_) | (refine wRet ?_; (try simp only [thenQ, blockQ]); (try (subst hQQ; (try simp only [thenQ, blockQ]))); refine ends_by (fun xx hx => ?_))); have hc := trivial; (repeat' (simp only [hc, Nat.reduceBEq, go_sem, Nat.reduceAdd, Nat.reduceMul, Nat.reduceSub, Nat.reduceEqDiff, Nat.reduceLT, Nat.reduceLeDiff, Int.reduceEq, Int.reduceLT, Int.reduceLE, reduceIte, aresults, aresult, hp0] at hx; (try ((first | rw [guardL_if] at hx | rw [guardF_if] at hx); split at hx <;> rename_i hc)))); all_goals (subst hx; first | (refine ⟨_, rfl, fun ht => ?_, fun ht => ?_⟩ <;> (try simp only [Bool.not_eq_true', Bool.not_eq_false', Bool.and_eq_true, Bool.and_eq_false_iff, Bool.or_eq_true, Bool.or_eq_false_iff, decide_eq_true_eq, decide_eq_false_iff_not, beq_iff_eq, bne_iff_ne, Bool.not_true, Bool.not_false, Bool.true_eq_false, Bool.false_eq_true, ne_eq, Decidable.not_not, inB_t, inB_f] at ht)) | (refine ⟨_, rfl, ?_⟩; (try simp only [tupOf])))) | refine wSkip ?_ | (refine wExit ?_; simp only [thenQ, blockQ, reduceIte, Nat.reduceEqDiff]) | refine wSeq ?_ | refine wBlock ?_ | (subst hQQ; (try simp only [thenQ, blockQ, reduceIte, Nat.reduceEqDiff])))
    (first | refine wSeqr (fun xx hx => ?_) | refine wSeqrF (fun xx hx => ?_) | refine wReg (fun xx hx => ?_) | refine wRegF (fun xx hx => ?_)); have hc := trivial; (repeat' (simp only [hc, Nat.reduceBEq, go_sem, Nat.reduceAdd, Nat.reduceMul, Nat.reduceSub, Nat.reduceEqDiff, Nat.reduceLT, Nat.reduceLeDiff, Int.reduceEq, Int.reduceLT, Int.reduceLE, reduceIte, aresults, aresult, hp0] at hx; (try ((first | rw [guardL_if] at hx | rw [guardF_if] at hx); split at hx <;> rename_i hc)))); generalize hq : call Try.prog cfg0 0 _ _ _ = q at hx
    obtain ⟨v, H1, rfl, v1, S1, F1, G1⟩ := d_Pick [0, 1, 3, 5, 6] (by simp) hco hS (by omega) hq
    clear hq
    simp only [List.mem_cons, List.not_mem_nil, or_false] at v1
    obtain ⟨n, hn⟩ : ∃ n : Nat, v = n := ⟨v.toNat, by omega⟩
    subst hn
    have hn6 : n ≤ 6 := by omega
    clear v1
    have hc := trivial; (repeat' (simp only [hc, Nat.reduceBEq, go_sem, Nat.reduceAdd, Nat.reduceMul, Nat.reduceSub, Nat.reduceEqDiff, Nat.reduceLT, Nat.reduceLeDiff, Int.reduceEq, Int.reduceLT, Int.reduceLE, reduceIte, aresults, aresult, hp0] at hx; (try ((first | rw [guardL_if] at hx | rw [guardF_if] at hx); split at hx <;> rename_i hc)))); all_goals (subst hx; refine ⟨_, rfl, ?_⟩)
    repeat' ((fail_if_success (first | refine wAt 6 ?_)); first | ((first | refine wSeqr (fun xx hx => ?_) | refine wSeqrF (fun xx hx => ?_) | refine wIf (fun xx hx => ?_) | refine wReg (fun xx hx => ?_) | refine wRegF (fun xx hx => ?_) | (refine wRet ?_; (try simp only [thenQ, blockQ]); (try (subst hQQ; (try simp only [thenQ, blockQ]))); refine ends_by (fun xx hx => ?_))); have hc := trivial; (repeat' (simp only [hc, Nat.reduceBEq, go_sem, Nat.reduceAdd, Nat.reduceMul, Nat.reduceSub, Nat.reduceEqDiff, Nat.reduceLT, Nat.reduceLeDiff, Int.reduceEq, Int.reduceLT, Int.reduceLE, reduceIte, aresults, aresult, hp0] at hx; (try ((first | rw [guardL_if] at hx | rw [guardF_if] at hx); split at hx <;> rename_i hc)))); all_goals (subst hx; first | (refine ⟨_, rfl, fun ht => ?_, fun ht => ?_⟩ <;> (try simp only [Bool.not_eq_true', Bool.not_eq_false', Bool.and_eq_true, Bool.and_eq_false_iff, Bool.or_eq_true, Bool.or_eq_false_iff, decide_eq_true_eq, decide_eq_false_iff_not, beq_iff_eq, bne_iff_ne, Bool.not_true, Bool.not_false, Bool.true_eq_false, Bool.false_eq_true, ne_eq, Decidable.not_not, inB_t, inB_f] at ht)) | (refine ⟨_, rfl, ?_⟩; (try simp only [tupOf])))) | refine wSkip ?_ | (refine wExit ?_; simp only [thenQ, blockQ, reduceIte, Nat.reduceEqDiff]) | refine wSeq ?_ | refine wBlock ?_ | (subst hQQ; (try simp only [thenQ, blockQ, reduceIte, Nat.reduceEqDiff])))
    refine wLoop (fun k s => ∃ (j : Nat) (x : AV) (rows : MRows), j + k = n ∧ s.1 0 = .ptr b 0 ∧ s.1 3 = x ∧ s.1 4 = .v (.int .i64 ((n : Int) - (j : Nat))) ∧ (DL s.2 x rows ∧ rows.length = j) ∧ (∀ p, p < H.g → Off p x) ∧ (∃ a2, a ≤ a2 ∧ a2 ≤ a + 2 + 8 * j ∧ Src s.2 b code a2) ∧ (Fr b H s.2)) (fun k s hI => ?_) (n) _ ?_
    · obtain ⟨e, K⟩ := s
      obtain ⟨j, x, rows, hj, h0, h3, h4, hr, hoff, hsrc, hfr⟩ := hI
      simp only at h0 h3 h4 hr hoff hsrc hfr
      obtain ⟨hr, hrl⟩ := hr
      obtain ⟨a2, a3, a4, hsrc⟩ := hsrc
      by_cases hlt : j < n
      · have hgt : 0 < (n : Int) - ((j : Nat) : Int) := by omega
        repeat' ((fail_if_success (first | refine wAt 5 ?_)); first | ((first | refine wSeqr (fun xx hx => ?_) | refine wSeqrF (fun xx hx => ?_) | refine wIf (fun xx hx => ?_) | refine wReg (fun xx hx => ?_) | refine wRegF (fun xx hx => ?_) | (refine wRet ?_; (try simp only [thenQ, blockQ]); (try (subst hQQ; (try simp only [thenQ, blockQ]))); refine ends_by (fun xx hx => ?_))); have hc := trivial; (repeat' (simp only [hc, Nat.reduceBEq, go_sem, Nat.reduceAdd, Nat.reduceMul, Nat.reduceSub, Nat.reduceEqDiff, Nat.reduceLT, Nat.reduceLeDiff, Int.reduceEq, Int.reduceLT, Int.reduceLE, reduceIte, aresults, aresult, hp0, h4, hgt] at hx; (try ((first | rw [guardL_if] at hx | rw [guardF_if] at hx); split at hx <;> rename_i hc)))); all_goals (subst hx; first | (refine ⟨_, rfl, fun ht => ?_, fun ht => ?_⟩ <;> (try simp only [Bool.not_eq_true', Bool.not_eq_false', Bool.and_eq_true, Bool.and_eq_false_iff, Bool.or_eq_true, Bool.or_eq_false_iff, decide_eq_true_eq, decide_eq_false_iff_not, beq_iff_eq, bne_iff_ne, Bool.not_true, Bool.not_false, Bool.true_eq_false, Bool.false_eq_true, ne_eq, Decidable.not_not, inB_t, inB_f] at ht)) | (refine ⟨_, rfl, ?_⟩; (try simp only [tupOf])))) | refine wSkip ?_ | (refine wExit ?_; simp only [thenQ, blockQ, reduceIte, Nat.reduceEqDiff]) | refine wSeq ?_ | refine wBlock ?_ | (subst hQQ; (try simp only [thenQ, blockQ, reduceIte, Nat.reduceEqDiff])))
        all_goals try (exfalso; (try simp only [Bool.not_eq_true', Bool.not_eq_false', Bool.and_eq_true, Bool.and_eq_false_iff, Bool.or_eq_true, Bool.or_eq_false_iff, decide_eq_true_eq, decide_eq_false_iff_not, beq_iff_eq, bne_iff_ne, Bool.not_true, Bool.not_false, Bool.true_eq_false, Bool.false_eq_true, ne_eq, Decidable.not_not, inB_t, inB_f] at *); first | omega | exact absurd trivial (by assumption))
        (first | refine wSeqr (fun xx hx => ?_) | refine wSeqrF (fun xx hx => ?_) | refine wReg (fun xx hx => ?_) | refine wRegF (fun xx hx => ?_)); have hc := trivial; (repeat' (simp only [hc, Nat.reduceBEq, go_sem, Nat.reduceAdd, Nat.reduceMul, Nat.reduceSub, Nat.reduceEqDiff, Nat.reduceLT, Nat.reduceLeDiff, Int.reduceEq, Int.reduceLT, Int.reduceLE, reduceIte, aresults, aresult, hp0, h0, h3] at hx; (try ((first | rw [guardL_if] at hx | rw [guardF_if] at hx); split at hx <;> rename_i hc)))); generalize hq : call Try.prog cfg0 0 _ _ _ = q at hx
        obtain ⟨v, K1, rfl, m, y, rfl, by1, by2, ⟨a5, a6, a7, S2⟩, F2⟩ := d_Draw hco hsrc (by omega) hq
        clear hq
        have yok := by1.ok
        simp only [mcells] at hx
        have hc := trivial; (repeat' (simp only [hc, Nat.reduceBEq, go_sem, Nat.reduceAdd, Nat.reduceMul, Nat.reduceSub, Nat.reduceEqDiff, Nat.reduceLT, Nat.reduceLeDiff, Int.reduceEq, Int.reduceLT, Int.reduceLE, reduceIte, aresults, aresult, hp0, h3, yok.1, yok.2] at hx; (try ((first | rw [guardL_if] at hx | rw [guardF_if] at hx); split at hx <;> rename_i hc)))); generalize hq : aappend Try.prog _ _ _ _ = q at hx
        have hxb : Off b x := hoff b hS.2
        have hr1 : RAcc K1 x 10 (drows rows) rows.length := hr.1.keep F2.1 fun p hp ho => F2.2 p hp (fun e => ho (e ▸ hxb))
        obtain ⟨x', K2, rfl, hacc, hg2, hk2, ho2⟩ := app_rows hq el23 zero38 by38 int23 (sz := 10) rfl (by omega) hr1 (m := 1) rfl (afirst_one _ _ (mcells m y)) rfl (by omega) (by omega)
        clear hq
        have w1 : IntKind.wrap .i64 ((n : Int) - ((j : Nat) : Int) - 1) = (n : Int) - ((j + 1 : Nat) : Int) := by rw [wrap_i64 (by omega) (by omega)]; omega
        have hc := trivial; (repeat' (simp only [hc, Nat.reduceBEq, go_sem, Nat.reduceAdd, Nat.reduceMul, Nat.reduceSub, Nat.reduceEqDiff, Nat.reduceLT, Nat.reduceLeDiff, Int.reduceEq, Int.reduceLT, Int.reduceLE, reduceIte, aresults, aresult, hp0] at hx; (try ((first | rw [guardL_if] at hx | rw [guardF_if] at hx); split at hx <;> rename_i hc)))); all_goals (subst hx; refine ⟨_, rfl, ?_⟩)
        repeat' (first | ((first | refine wSeqr (fun xx hx => ?_) | refine wSeqrF (fun xx hx => ?_) | refine wIf (fun xx hx => ?_) | refine wReg (fun xx hx => ?_) | refine wRegF (fun xx hx => ?_) | (refine wRet ?_; (try simp only [thenQ, blockQ]); (try (subst hQQ; (try simp only [thenQ, blockQ]))); refine ends_by (fun xx hx => ?_))); have hc := trivial; (repeat' (simp only [hc, Nat.reduceBEq, go_sem, Nat.reduceAdd, Nat.reduceMul, Nat.reduceSub, Nat.reduceEqDiff, Nat.reduceLT, Nat.reduceLeDiff, Int.reduceEq, Int.reduceLT, Int.reduceLE, reduceIte, aresults, aresult, hp0, h4, w1] at hx; (try ((first | rw [guardL_if] at hx | rw [guardF_if] at hx); split at hx <;> rename_i hc)))); all_goals (subst hx; first | (refine ⟨_, rfl, fun ht => ?_, fun ht => ?_⟩ <;> (try simp only [Bool.not_eq_true', Bool.not_eq_false', Bool.and_eq_true, Bool.and_eq_false_iff, Bool.or_eq_true, Bool.or_eq_false_iff, decide_eq_true_eq, decide_eq_false_iff_not, beq_iff_eq, bne_iff_ne, Bool.not_true, Bool.not_false, Bool.true_eq_false, Bool.false_eq_true, ne_eq, Decidable.not_not, inB_t, inB_f] at ht)) | (refine ⟨_, rfl, ?_⟩; (try simp only [tupOf])))) | refine wSkip ?_ | (refine wExit ?_; simp only [thenQ, blockQ, reduceIte, Nat.reduceEqDiff]) | refine wSeq ?_ | refine wBlock ?_ | (subst hQQ; (try simp only [thenQ, blockQ, reduceIte, Nat.reduceEqDiff])))
        all_goals try (exfalso; (try simp only [Bool.not_eq_true', Bool.not_eq_false', Bool.and_eq_true, Bool.and_eq_false_iff, Bool.or_eq_true, Bool.or_eq_false_iff, decide_eq_true_eq, decide_eq_false_iff_not, beq_iff_eq, bne_iff_ne, Bool.not_true, Bool.not_false, Bool.true_eq_false, Bool.false_eq_true, ne_eq, Decidable.not_not, inB_t, inB_f] at *); first | omega | exact absurd trivial (by assumption))
        have hfg := hfr.1
        have hf2 := F2.1
        refine ⟨_, Nat.sub_lt (by omega) Nat.one_pos, j + 1, x', rows ++ [(m, y)], by omega, by simp only [upd_eq, Nat.reduceEqDiff, if_false, if_true, h0, h3, h4], by simp only [upd_eq, Nat.reduceEqDiff, if_false, if_true, h0, h3, h4], by simp only [upd_eq, Nat.reduceEqDiff, if_false, if_true, h0, h3, h4], ?_⟩
        have hbg : b < K1.g := S2.2
        have hbg2 : b < K2.g := by omega
        have hfr' : Fr b H K2 := ⟨by omega, fun p h1 h2 => (hk2 p (by omega) (hoff p h1)).trans ((F2.2 p (by omega) h2).trans (hfr.2 p h1 h2))⟩
        exact ⟨⟨DL.add hacc hr.2 by1 by2, by simp [hrl]⟩, fun p hp => ho2 p (by omega) (hoff p hp), ⟨a5, by omega, by omega, (hk2 b hbg hxb).trans S2.1, hbg2⟩, hfr'⟩
      · have hj' : j = n := by omega
        have hgt : ¬ 0 < (n : Int) - ((j : Nat) : Int) := by omega
        repeat' (first | ((first | refine wSeqr (fun xx hx => ?_) | refine wSeqrF (fun xx hx => ?_) | refine wIf (fun xx hx => ?_) | refine wReg (fun xx hx => ?_) | refine wRegF (fun xx hx => ?_) | (refine wRet ?_; (try simp only [thenQ, blockQ]); (try (subst hQQ; (try simp only [thenQ, blockQ]))); refine ends_by (fun xx hx => ?_))); have hc := trivial; (repeat' (simp only [hc, Nat.reduceBEq, go_sem, Nat.reduceAdd, Nat.reduceMul, Nat.reduceSub, Nat.reduceEqDiff, Nat.reduceLT, Nat.reduceLeDiff, Int.reduceEq, Int.reduceLT, Int.reduceLE, reduceIte, aresults, aresult, hp0, h0, h3, h4, hgt] at hx; (try ((first | rw [guardL_if] at hx | rw [guardF_if] at hx); split at hx <;> rename_i hc)))); all_goals (subst hx; first | (refine ⟨_, rfl, fun ht => ?_, fun ht => ?_⟩ <;> (try simp only [Bool.not_eq_true', Bool.not_eq_false', Bool.and_eq_true, Bool.and_eq_false_iff, Bool.or_eq_true, Bool.or_eq_false_iff, decide_eq_true_eq, decide_eq_false_iff_not, beq_iff_eq, bne_iff_ne, Bool.not_true, Bool.not_false, Bool.true_eq_false, Bool.false_eq_true, ne_eq, Decidable.not_not, inB_t, inB_f] at ht)) | (refine ⟨_, rfl, ?_⟩; (try simp only [tupOf])))) | refine wSkip ?_ | (refine wExit ?_; simp only [thenQ, blockQ, reduceIte, Nat.reduceEqDiff]) | refine wSeq ?_ | refine wBlock ?_ | (subst hQQ; (try simp only [thenQ, blockQ, reduceIte, Nat.reduceEqDiff])))
        all_goals try (exfalso; (try simp only [Bool.not_eq_true', Bool.not_eq_false', Bool.and_eq_true, Bool.and_eq_false_iff, Bool.or_eq_true, Bool.or_eq_false_iff, decide_eq_true_eq, decide_eq_false_iff_not, beq_iff_eq, bne_iff_ne, Bool.not_true, Bool.not_false, Bool.true_eq_false, Bool.false_eq_true, ne_eq, Decidable.not_not, inB_t, inB_f] at *); first | omega | exact absurd trivial (by assumption))
        subst hj'
        exact ⟨rows, hr, by omega, hoff, ⟨a2, a3, by omega, hsrc⟩, hfr⟩
    · refine ⟨0, .lst true [], [], by omega, rfl, rfl, ?_, ⟨⟨RAcc.lst, fun r hr => by simp at hr⟩, rfl⟩, fun p _ => off_lst, ⟨a + 1, by omega, by omega, S1⟩, F1⟩
      simp only [upd_eq, Nat.reduceEqDiff, if_false, if_true]
      show AV.v (.int .i64 (n : Nat)) = _
      simp
  obtain ⟨⟨x, H'⟩, h1, rows, h2, h3, h4, h5, h6⟩ := key
  exact ⟨x, H', rows, by rw [call_raw Try.prog cfg0 Try.func45 rfl ok_List rfl rfl, h1], h2, h3, h4, h5, h6⟩
end
end
end Go.Proofs.Ytmpkcilehideiaa
