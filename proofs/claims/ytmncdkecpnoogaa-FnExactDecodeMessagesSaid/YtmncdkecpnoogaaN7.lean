/- Contracts: comparisons and marks of results with messages. -/
import Derived.Test.YtmncdkecpnoogaaMB
namespace Go.Proofs.Ytmncdkecpnoogaa
open Go Go.RowKit Go.Proofs.Ytmncdkecpnoogaa.Eng
set_option linter.unusedSimpArgs false
set_option linter.unusedVariables false
set_option maxRecDepth 100000
set_option maxHeartbeats 4000000
noncomputable section
/-- A marked message, the first mark q. -/
def mkM (q : Int) (m : MessageM) : MessageM := ⟨q, q + 1, q + 2, ⟨q + 3, q + 4, q + 5, q + 6⟩, q + 7, ⟨q + 8, marksB (q + 9) m.Key.Bytes.length⟩⟩
def nxM (q : Int) (m : MessageM) : Int := q + 9 + m.Key.Bytes.length
def mkL : Int → List MessageM → List MessageM
  | _, [] => []
  | q, m :: ms => mkM q m :: mkL (nxM q m) ms
def nxL : Int → List MessageM → Int
  | q, [] => q
  | q, m :: ms => nxL (nxM q m) ms
theorem mkL_snoc (m : MessageM) : ∀ (a : List MessageM) (q : Int), mkL q (a ++ [m]) = mkL q a ++ [mkM (nxL q a) m] := by
  intro a
  induction a with
  | nil => intro q; rfl
  | cons x a ih => intro q; simp only [List.cons_append, mkL, nxL, ih]
theorem nxL_snoc (m : MessageM) : ∀ (a : List MessageM) (q : Int), nxL q (a ++ [m]) = nxM (nxL q a) m := by
  intro a
  induction a with
  | nil => intro q; rfl
  | cons x a ih => intro q; simp only [List.cons_append, nxL, ih]
theorem mkL_len : ∀ (a : List MessageM) (q : Int), (mkL q a).length = a.length := by
  intro a
  induction a with
  | nil => intro q; rfl
  | cons x a ih => intro q; simp only [mkL, List.length_cons, ih]
theorem mkL_take : ∀ (a : List MessageM) (q : Int) (j : Nat), (mkL q a).take j = mkL q (a.take j) := by
  intro a
  induction a with
  | nil => intro q j; cases j <;> rfl
  | cons x a ih =>
    intro q j
    cases j with
    | zero => rfl
    | succ j => simp only [mkL, List.take_succ_cons, ih]
theorem mkL_at : ∀ (a : List MessageM) (q : Int) (j : Nat) (m : MessageM), a[j]? = some m → (mkL q a)[j]? = some (mkM (nxL q (a.take j)) m) := by
  intro a
  induction a with
  | nil => intro q j m h; simp at h
  | cons x a ih =>
    intro q j m h
    cases j with
    | zero => simp at h; subst h; rfl
    | succ j => simpa [mkL, nxL] using ih (nxM q x) j m (by simpa using h)
theorem nxL_bound : ∀ (a : List MessageM) (q : Int), (∀ x ∈ a, x.Key.Bytes.length ≤ 1000) → q ≤ nxL q a ∧ nxL q a ≤ q + a.length * 1009 := by
  intro a
  induction a with
  | nil => intro q _; simp [nxL]
  | cons x a ih =>
    intro q h
    have h1 := h x (by simp)
    have h2 := ih (nxM q x) fun y hy => h y (by simp [hy])
    simp only [nxL, nxM, List.length_cons] at h2 ⊢
    omega
theorem set_app {A : List AV} {n : Nat} (hA : A.length = n) (i : Nat) (B : List AV) (x : AV) : (A ++ B).set (n + i) x = A ++ B.set i x := by
  rw [List.set_append_right _ _ (by omega), show n + i - A.length = i by omega]
theorem get_app {A : List AV} {n : Nat} (hA : A.length = n) (i : Nat) (B : List AV) : (A ++ B)[n + i]? = B[i]? := by
  rw [List.getElem?_append_right (by omega), show n + i - A.length = i by omega]
theorem Laid_vs {H : Hp} {lo hi : Nat} {ts zs : List AV} (h : Laid H lo hi ts zs) (hv : ∀ t ∈ ts, ∃ y, t = .v y) : zs = ts := by
  induction h with
  | nil h => rfl
  | v y h ih => rw [ih fun t ht => hv t (by simp [ht])]
  | nl h ih => obtain ⟨y, e⟩ := hv _ (List.mem_cons_self ..); cases e
  | lst hne hn hsz hs hi1 hb h ih1 ih2 => obtain ⟨y, e⟩ := hv _ (List.mem_cons_self ..); cases e
/-- Marks in laid bytes. -/
theorem markB_laid (l : List Int) (hl : l.length ≤ 1048576) (q : Int) (hk : 0 ≤ q ∧ q ≤ 4611686018427387904) {lo hi : Nat} {z : AV} {K : Hp} (hL : Laid K lo hi [bytesL l] [z]) :
    ∃ H', call Try.prog cfg0 0 18 [z, .v (.int .i64 q)] K = some (.v (.int .i64 (q + l.length)), H') ∧ Laid H' lo hi [bytesL (marksB q l.length)] [z] ∧ OutOf lo hi K H' := by
  have hle := hL.le
  rcases hL.inv1 with ⟨h1, rfl⟩ | ⟨b, sz, cs, hne, rfl, hsz, hs, hb1, hb2, hi1, hb⟩
  · have e : l = [] := by simpa using h1
    subst e
    refine ⟨K, ?_, hL, OutOf.refl _ _ _⟩
    rw [cr_mark0]; simp
  · have hls : (l.map fun z => [cell z]).length = l.length := by simp
    have hl0 : l ≠ [] := fun e => hne (by rw [e]; rfl)
    have hs1 : sz = 1 := by
      cases l with
      | nil => exact absurd rfl hl0
      | cons a l => exact (hs _ (List.mem_cons_self ..)).symm
    subst hs1
    rw [cells_flat] at hi1
    have hcs := Laid_vs hi1 fun t ht => by obtain ⟨y, -, rfl⟩ := List.mem_map.1 ht; exact ⟨_, rfl⟩
    subst hcs
    rw [hls]
    refine ⟨K.set b ((marksB q l.length).map cell), cr_markE l q (by omega) hk K b hb, ?_, (OutOf.refl lo hi K).set hb1 hb2⟩
    refine .lst (rows := (marksB q l.length).map fun z => [cell z]) ?_ (by simp [marksB_length]) (by omega) (fun c hc => by obtain ⟨z, -, rfl⟩ := List.mem_map.1 hc; rfl) (cs := (marksB q l.length).map cell) ?_ (by simp [Hp.set_h]) (.nil (by omega))
    · intro e
      have := congrArg List.length e
      rw [List.length_map, marksB_length, List.length_nil] at this
      exact hl0 (List.length_eq_zero_iff.1 this)
    · rw [cells_flat]
      exact Laid.flat hb1 _ fun t ht => by obtain ⟨y, -, rfl⟩ := List.mem_map.1 ht; exact ⟨_, rfl⟩
theorem ok_markMS : fnOk Try.prog cfg0 66 Try.f66 = true := by kernel_rfl
theorem markMS (ms : List MessageM) (hms : ms.length ≤ 1000 ∧ ∀ x ∈ ms, x.Key.Bytes.length ≤ 1000) (q : Int) (hq0 : 0 ≤ q ∧ q ≤ 1000000000) {lo b : Nat} {cs0 : List AV} {K : Hp} (hb0 : K.h b = some cs0) (hbg : b < K.g) (hL : Laid K lo b ((ms.map encMessage).flatten) cs0) :
    ∃ H' cs, call Try.prog cfg0 0 66 [.sl b 10 0 ms.length, .v (.int .i64 q)] K = some (.v (.int .i64 (nxL q ms)), H') ∧ H'.h b = some cs ∧ Laid H' lo b (((mkL q ms).map encMessage).flatten) cs ∧ OutOf lo (b + 1) K H' := by
  have key : ∃ r, body Try.prog cfg0 66 Try.f66 [.sl b 10 0 ms.length, .v (.int .i64 q)] K = some r ∧ (r.1 = .v (.int .i64 (nxL q ms)) ∧ ∃ cs, r.2.h b = some cs ∧ Laid r.2 lo b (((mkL q ms).map encMessage).flatten) cs ∧ OutOf lo (b + 1) K r.2) := by
    refine body_wp (rs := [.tmp 4]) rfl rfl (R := fun x H' => x = .v (.int .i64 (nxL q ms)) ∧ ∃ cs, H'.h b = some cs ∧ Laid H' lo b (((mkL q ms).map encMessage).flatten) cs ∧ OutOf lo (b + 1) K H') ?_
    have hp0 : ∀ b, cfg0.pol 66 b = 0 := fun b => rfl
    have hlb := hL.le
    repeat' (first | ((first | refine wSeqr (fun xx hx => ?_) | refine wIf (fun xx hx => ?_) | refine wReg (fun xx hx => ?_) | (refine wRet ?_; (try simp only [thenQ, blockQ]); refine ends_by (fun xx hx => ?_))); have hc := trivial; (repeat' (simp only [hc, go_sem, Nat.reduceAdd, Nat.reduceMul, Nat.reduceSub, Nat.reduceEqDiff, Nat.reduceLT, Nat.reduceLeDiff, Int.reduceEq, Int.reduceLT, Int.reduceLE, reduceIte, aresults, aresult, hp0] at hx; (try (rw [guardL_if] at hx; split at hx <;> rename_i hc)))); all_goals (subst hx; first | (refine ⟨_, rfl, fun ht => ?_, fun ht => ?_⟩ <;> (try simp only [Bool.not_eq_true', Bool.not_eq_false', Bool.and_eq_true, Bool.and_eq_false_iff, Bool.or_eq_true, Bool.or_eq_false_iff, decide_eq_true_eq, decide_eq_false_iff_not, beq_iff_eq, bne_iff_ne, Bool.not_true, Bool.not_false, Bool.true_eq_false, Bool.false_eq_true, ne_eq, Decidable.not_not, inB_t, inB_f] at ht)) | (refine ⟨_, rfl, ?_⟩; (try simp only [tupOf])))) | refine wSkip ?_ | (refine wExit ?_; simp only [thenQ, blockQ, reduceIte, Nat.reduceEqDiff]) | refine wSeq ?_ | refine wBlock ?_)
    refine wLoop (fun k s => ∃ (j : Nat), j + k = ms.length ∧ s.1 0 = .sl b 10 0 ms.length ∧ s.1 1 = .v (.int .i64 (nxL q (ms.take j))) ∧ s.1 5 = .v (.int .i64 (j : Nat)) ∧ (∃ A B mid, s.2.h b = some (A ++ B) ∧ A.length = j * 10 ∧ B.length = (ms.length - j) * 10 ∧ Laid s.2 lo mid (((mkL q (ms.take j)).map encMessage).flatten) A ∧ Laid s.2 mid b (((ms.drop j).map encMessage).flatten) B ∧ OutOf lo (b + 1) K s.2)) (fun k s hI => ?_) (ms.length) _ ?_
    · obtain ⟨e, H⟩ := s
      obtain ⟨j, hj, h0, h1, h5, hh⟩ := hI
      simp only at h0 h1 h5 hh
      obtain ⟨A, B, mid, hb, hA, hB, hLA, hLB, hout⟩ := hh
      have hbd := nxL_bound (ms.take j) q (fun x hx => hms.2 x (List.mem_of_mem_take hx))
      have htl : (ms.take j).length ≤ 1000 := by rw [List.length_take]; omega
      by_cases hlt : j < ms.length
      · obtain ⟨m, hgm, hd, hm⟩ := at_drop hlt
        have hmk := hms.2 m hm
        have ht1 := at_take hgm
        have hsn : mkL q (ms.take (j + 1)) = mkL q (ms.take j) ++ [mkM (nxL q (ms.take j)) m] := by rw [ht1, mkL_snoc]
        have hnn : nxL q (ms.take (j + 1)) = nxL q (ms.take j) + 9 + m.Key.Bytes.length := by rw [ht1, nxL_snoc]; rfl
        generalize hq1 : nxL q (ms.take j) = q1 at *
        rw [hd, List.map_cons, List.flatten_cons] at hLB
        obtain ⟨m2, r1, r2, rfl, hy1, hy2⟩ := Laid.split (encMessage m) hLB
        have e1 := hy1.le
        have e2 := hy2.le
        have e3 := hLA.le
        have hr1 : r1.length = 10 := hy1.len
        rw [List.length_append, hr1] at hB
        have f0 := hy1
        simp only [encMessage] at f0
        obtain ⟨t1, rfl, f1⟩ := f0.invV
        obtain ⟨t2, rfl, f2⟩ := f1.invV
        obtain ⟨t3, rfl, f3⟩ := f2.invV
        obtain ⟨t4, rfl, f4⟩ := f3.invV
        obtain ⟨t5, rfl, f5⟩ := f4.invV
        obtain ⟨t6, rfl, f6⟩ := f5.invV
        obtain ⟨t7, rfl, f7⟩ := f6.invV
        obtain ⟨t8, rfl, f8⟩ := f7.invV
        obtain ⟨t9, rfl, f9⟩ := f8.invV
        obtain ⟨z, t10, mx, rfl, a0, b0, y0, f10⟩ := f9.invL
        obtain rfl := f10.invN
        simp only [List.cons_append, List.nil_append] at hb
        have k0 := (okc_laid y0).1
        have j0 := (okc_laid y0).2
        have hlen : ∀ B : List AV, (A ++ B).length = j * 10 + B.length := fun B => by rw [List.length_append, hA]
        have hr2l : r2.length = (ms.length - (j + 1)) * 10 := by omega
        have sa0 : ∀ B x, (A ++ B).set (j * 10) x = A ++ B.set 0 x := fun B x => set_app hA 0 B x
        have sa1 : ∀ B x, (A ++ B).set (j * 10 + 1) x = A ++ B.set 1 x := fun B x => set_app hA 1 B x
        have sa2 : ∀ B x, (A ++ B).set (j * 10 + 2) x = A ++ B.set 2 x := fun B x => set_app hA 2 B x
        have sa3 : ∀ B x, (A ++ B).set (j * 10 + 3) x = A ++ B.set 3 x := fun B x => set_app hA 3 B x
        have sa4 : ∀ B x, (A ++ B).set (j * 10 + 4) x = A ++ B.set 4 x := fun B x => set_app hA 4 B x
        have sa5 : ∀ B x, (A ++ B).set (j * 10 + 5) x = A ++ B.set 5 x := fun B x => set_app hA 5 B x
        have sa6 : ∀ B x, (A ++ B).set (j * 10 + 6) x = A ++ B.set 6 x := fun B x => set_app hA 6 B x
        have sa7 : ∀ B x, (A ++ B).set (j * 10 + 7) x = A ++ B.set 7 x := fun B x => set_app hA 7 B x
        have sa8 : ∀ B x, (A ++ B).set (j * 10 + 8) x = A ++ B.set 8 x := fun B x => set_app hA 8 B x
        have ga9 : ∀ B : List AV, (A ++ B)[j * 10 + 9]? = B[9]? := fun B => get_app hA 9 B
        have w1 : IntKind.wrap .i64 (q1 + 1) = q1 + 1 := by rw [wrap_i64 (by omega) (by omega)]
        have w2 : IntKind.wrap .i64 (q1 + 1 + 1) = q1 + 2 := by rw [wrap_i64 (by omega) (by omega)]; omega
        have w3 : IntKind.wrap .i64 (q1 + 2 + 1) = q1 + 3 := by rw [wrap_i64 (by omega) (by omega)]; omega
        have w4 : IntKind.wrap .i64 (q1 + 3 + 1) = q1 + 4 := by rw [wrap_i64 (by omega) (by omega)]; omega
        have w5 : IntKind.wrap .i64 (q1 + 4 + 1) = q1 + 5 := by rw [wrap_i64 (by omega) (by omega)]; omega
        have w6 : IntKind.wrap .i64 (q1 + 5 + 1) = q1 + 6 := by rw [wrap_i64 (by omega) (by omega)]; omega
        have w7 : IntKind.wrap .i64 (q1 + 6 + 1) = q1 + 7 := by rw [wrap_i64 (by omega) (by omega)]; omega
        have w8 : IntKind.wrap .i64 (q1 + 7 + 1) = q1 + 8 := by rw [wrap_i64 (by omega) (by omega)]; omega
        have w9 : IntKind.wrap .i64 (q1 + 8 + 1) = q1 + 9 := by rw [wrap_i64 (by omega) (by omega)]; omega
        have le0 : j * 10 + 1 ≤ j * 10 + (r2.length + 10) := by omega
        have le1 : j * 10 + 2 ≤ j * 10 + (r2.length + 10) := by omega
        have le2 : j * 10 + 3 ≤ j * 10 + (r2.length + 10) := by omega
        have le3 : j * 10 + 4 ≤ j * 10 + (r2.length + 10) := by omega
        have le4 : j * 10 + 5 ≤ j * 10 + (r2.length + 10) := by omega
        have le5 : j * 10 + 6 ≤ j * 10 + (r2.length + 10) := by omega
        have le6 : j * 10 + 7 ≤ j * 10 + (r2.length + 10) := by omega
        have le7 : j * 10 + 8 ≤ j * 10 + (r2.length + 10) := by omega
        have le8 : j * 10 + 9 ≤ j * 10 + (r2.length + 10) := by omega
        have le9 : j * 10 + 10 ≤ j * 10 + (r2.length + 10) := by omega
        have hw9 : IntKind.wrap .i64 (q1 + 9 + (m.Key.Bytes.length : Nat)) = q1 + 9 + (m.Key.Bytes.length : Nat) := wrap_i64 (by omega) (by omega)
        repeat' (first | ((first | refine wSeqr (fun xx hx => ?_) | refine wIf (fun xx hx => ?_) | refine wReg (fun xx hx => ?_) | (refine wRet ?_; (try simp only [thenQ, blockQ]); refine ends_by (fun xx hx => ?_))); have hc := trivial; (repeat' (simp only [hc, go_sem, Nat.reduceAdd, Nat.reduceMul, Nat.reduceSub, Nat.reduceEqDiff, Nat.reduceLT, Nat.reduceLeDiff, Int.reduceEq, Int.reduceLT, Int.reduceLE, reduceIte, aresults, aresult, hp0, h0, h1, h5, hb, hlt, Option.isSome_some, hlen, List.length_cons, sa0, sa1, sa2, sa3, sa4, sa5, sa6, sa7, sa8, ga9, w1, w2, w3, w4, w5, w6, w7, w8, w9, wrap_succ (show j < 9223372036854775807 by omega), le0, le1, le2, le3, le4, le5, le6, le7, le8, le9, Hp.set_set] at hx; (try (rw [guardL_if] at hx; split at hx <;> rename_i hc)))); all_goals (subst hx; first | (refine ⟨_, rfl, fun ht => ?_, fun ht => ?_⟩ <;> (try simp only [Bool.not_eq_true', Bool.not_eq_false', Bool.and_eq_true, Bool.and_eq_false_iff, Bool.or_eq_true, Bool.or_eq_false_iff, decide_eq_true_eq, decide_eq_false_iff_not, beq_iff_eq, bne_iff_ne, Bool.not_true, Bool.not_false, Bool.true_eq_false, Bool.false_eq_true, ne_eq, Decidable.not_not, inB_t, inB_f] at ht)) | (refine ⟨_, rfl, ?_⟩; (try simp only [tupOf])))) | refine wSkip ?_ | (refine wExit ?_; simp only [thenQ, blockQ, reduceIte, Nat.reduceEqDiff]) | refine wSeq ?_ | refine wBlock ?_)
        all_goals first
          | (exfalso; (try simp only [Bool.not_eq_true', Bool.not_eq_false', Bool.and_eq_true, Bool.and_eq_false_iff, Bool.or_eq_true, Bool.or_eq_false_iff, decide_eq_true_eq, decide_eq_false_iff_not, beq_iff_eq, bne_iff_ne, Bool.not_true, Bool.not_false, Bool.true_eq_false, Bool.false_eq_true, ne_eq, Decidable.not_not, inB_t, inB_f] at *); omega)
          | skip
        (first | refine wSeqr (fun xx hx => ?_) | refine wReg (fun xx hx => ?_)); have hc := trivial; (repeat' (simp only [hc, go_sem, Nat.reduceAdd, Nat.reduceMul, Nat.reduceSub, Nat.reduceEqDiff, Nat.reduceLT, Nat.reduceLeDiff, Int.reduceEq, Int.reduceLT, Int.reduceLE, reduceIte, aresults, aresult, hp0, h0, h1, h5, hb, hlt, Option.isSome_some, hlen, List.length_cons, sa0, sa1, sa2, sa3, sa4, sa5, sa6, sa7, sa8, ga9, w1, w2, w3, w4, w5, w6, w7, w8, w9, wrap_succ (show j < 9223372036854775807 by omega), le0, le1, le2, le3, le4, le5, le6, le7, le8, le9, Hp.set_set] at hx; (try (rw [guardL_if] at hx; split at hx <;> rename_i hc)))); generalize hq : call Try.prog cfg0 0 _ _ _ = q at hx
        obtain ⟨H9, g9, L9, o9⟩ := markB_laid m.Key.Bytes (by omega) (q1 + 9) ⟨by omega, by omega⟩ (y0.keep (H' := H.set b (A ++ .v (.int .i64 q1) :: .v (.int .i64 (q1 + 1)) :: .v (.int .i64 (q1 + 2)) :: .v (.int .i64 (q1 + 3)) :: .v (.int .i64 (q1 + 4)) :: .v (.int .i64 (q1 + 5)) :: .v (.int .i64 (q1 + 6)) :: .v (.int .i64 (q1 + 7)) :: .v (.int .i64 (q1 + 8)) :: z :: r2)) fun b' h1 h2 => by rw [Hp.set_h, if_neg (by omega)])
        have e9 := hq.symm.trans g9
        clear hq
        subst e9
        have hc := trivial; (repeat' (simp only [hc, go_sem, Nat.reduceAdd, Nat.reduceMul, Nat.reduceSub, Nat.reduceEqDiff, Nat.reduceLT, Nat.reduceLeDiff, Int.reduceEq, Int.reduceLT, Int.reduceLE, reduceIte, aresults, aresult, hp0] at hx; (try (rw [guardL_if] at hx; split at hx <;> rename_i hc)))); all_goals (subst hx; refine ⟨_, rfl, ?_⟩)
        repeat' (first | ((first | refine wSeqr (fun xx hx => ?_) | refine wIf (fun xx hx => ?_) | refine wReg (fun xx hx => ?_) | (refine wRet ?_; (try simp only [thenQ, blockQ]); refine ends_by (fun xx hx => ?_))); have hc := trivial; (repeat' (simp only [hc, go_sem, Nat.reduceAdd, Nat.reduceMul, Nat.reduceSub, Nat.reduceEqDiff, Nat.reduceLT, Nat.reduceLeDiff, Int.reduceEq, Int.reduceLT, Int.reduceLE, reduceIte, aresults, aresult, hp0, h5, wrap_succ (show j < 9223372036854775807 by omega)] at hx; (try (rw [guardL_if] at hx; split at hx <;> rename_i hc)))); all_goals (subst hx; first | (refine ⟨_, rfl, fun ht => ?_, fun ht => ?_⟩ <;> (try simp only [Bool.not_eq_true', Bool.not_eq_false', Bool.and_eq_true, Bool.and_eq_false_iff, Bool.or_eq_true, Bool.or_eq_false_iff, decide_eq_true_eq, decide_eq_false_iff_not, beq_iff_eq, bne_iff_ne, Bool.not_true, Bool.not_false, Bool.true_eq_false, Bool.false_eq_true, ne_eq, Decidable.not_not, inB_t, inB_f] at ht)) | (refine ⟨_, rfl, ?_⟩; (try simp only [tupOf])))) | refine wSkip ?_ | (refine wExit ?_; simp only [thenQ, blockQ, reduceIte, Nat.reduceEqDiff]) | refine wSeq ?_ | refine wBlock ?_)
        all_goals first
          | (exfalso; (try simp only [Bool.not_eq_true', Bool.not_eq_false', Bool.and_eq_true, Bool.and_eq_false_iff, Bool.or_eq_true, Bool.or_eq_false_iff, decide_eq_true_eq, decide_eq_false_iff_not, beq_iff_eq, bne_iff_ne, Bool.not_true, Bool.not_false, Bool.true_eq_false, Bool.false_eq_true, ne_eq, Decidable.not_not, inB_t, inB_f] at *); omega)
          | skip
        refine ⟨_, Nat.sub_lt (by omega) Nat.one_pos, j + 1, by omega, by simp only [upd_eq, Nat.reduceEqDiff, if_false, if_true, h0], ?_, by simp only [upd_eq, Nat.reduceEqDiff, if_false, if_true], ?_⟩
        · simp only [upd_eq, Nat.reduceEqDiff, if_true, if_false]
          rw [hnn]
        · have hA2 : (A ++ [.v (.int .i64 q1), .v (.int .i64 (q1 + 1)), .v (.int .i64 (q1 + 2)), .v (.int .i64 (q1 + 3)), .v (.int .i64 (q1 + 4)), .v (.int .i64 (q1 + 5)), .v (.int .i64 (q1 + 6)), .v (.int .i64 (q1 + 7)), .v (.int .i64 (q1 + 8)), z]).length = (j + 1) * 10 := by rw [List.length_append, hA]; simp only [List.length_cons, List.length_nil]; omega
          have hbk : H9.h b = some ((A ++ [.v (.int .i64 q1), .v (.int .i64 (q1 + 1)), .v (.int .i64 (q1 + 2)), .v (.int .i64 (q1 + 3)), .v (.int .i64 (q1 + 4)), .v (.int .i64 (q1 + 5)), .v (.int .i64 (q1 + 6)), .v (.int .i64 (q1 + 7)), .v (.int .i64 (q1 + 8)), z]) ++ r2) := by
            rw [o9.2 b (by simp only [Hp.set_g]; have := hout.1; omega) (.inr (by omega)), Hp.set_h, if_pos rfl, List.append_assoc]
            rfl
          refine ⟨A ++ [.v (.int .i64 q1), .v (.int .i64 (q1 + 1)), .v (.int .i64 (q1 + 2)), .v (.int .i64 (q1 + 3)), .v (.int .i64 (q1 + 4)), .v (.int .i64 (q1 + 5)), .v (.int .i64 (q1 + 6)), .v (.int .i64 (q1 + 7)), .v (.int .i64 (q1 + 8)), z], r2, m2, hbk, hA2, hr2l, ?_, ?_, ?_⟩
          · rw [hsn, List.map_append, List.flatten_append]
            refine Laid.app ((hLA.keep (H' := H9) fun b' h1 h2 => (o9.2 b' (by simp only [Hp.set_g]; have := hout.1; omega) (.inl h2)).trans (by rw [Hp.set_h, if_neg (by omega)]))) ?_
            simp only [List.map_cons, List.map_nil, List.flatten_cons, List.flatten_nil, List.append_nil, encMessage, mkM]
            exact .v _ (.v _ (.v _ (.v _ (.v _ (.v _ (.v _ (.v _ (.v _ (L9.high b0)))))))))
          · exact hy2.keep fun b' h1 h2 => (o9.2 b' (by simp only [Hp.set_g]; have := hout.1; omega) (.inr (by omega))).trans (by rw [Hp.set_h, if_neg (by omega)])
          · exact OutOf.out o9 (by omega) (by omega) (hout.set hlb (by omega))
      · have hj' : j = ms.length := by omega
        rw [hj', List.take_length] at h1 hLA
        rw [hj', Nat.sub_self, Nat.zero_mul] at hB
        have hB0 : B = [] := List.length_eq_zero_iff.1 hB
        subst hB0
        rw [List.append_nil] at hb
        have e2 := hLB.le
        repeat' (first | ((first | refine wSeqr (fun xx hx => ?_) | refine wIf (fun xx hx => ?_) | refine wReg (fun xx hx => ?_) | (refine wRet ?_; (try simp only [thenQ, blockQ]); refine ends_by (fun xx hx => ?_))); have hc := trivial; (repeat' (simp only [hc, go_sem, Nat.reduceAdd, Nat.reduceMul, Nat.reduceSub, Nat.reduceEqDiff, Nat.reduceLT, Nat.reduceLeDiff, Int.reduceEq, Int.reduceLT, Int.reduceLE, reduceIte, aresults, aresult, hp0, h0, h1, h5] at hx; (try (rw [guardL_if] at hx; split at hx <;> rename_i hc)))); all_goals (subst hx; first | (refine ⟨_, rfl, fun ht => ?_, fun ht => ?_⟩ <;> (try simp only [Bool.not_eq_true', Bool.not_eq_false', Bool.and_eq_true, Bool.and_eq_false_iff, Bool.or_eq_true, Bool.or_eq_false_iff, decide_eq_true_eq, decide_eq_false_iff_not, beq_iff_eq, bne_iff_ne, Bool.not_true, Bool.not_false, Bool.true_eq_false, Bool.false_eq_true, ne_eq, Decidable.not_not, inB_t, inB_f] at ht)) | (refine ⟨_, rfl, ?_⟩; (try simp only [tupOf])))) | refine wSkip ?_ | (refine wExit ?_; simp only [thenQ, blockQ, reduceIte, Nat.reduceEqDiff]) | refine wSeq ?_ | refine wBlock ?_)
        all_goals first
          | (exfalso; (try simp only [Bool.not_eq_true', Bool.not_eq_false', Bool.and_eq_true, Bool.and_eq_false_iff, Bool.or_eq_true, Bool.or_eq_false_iff, decide_eq_true_eq, decide_eq_false_iff_not, beq_iff_eq, bne_iff_ne, Bool.not_true, Bool.not_false, Bool.true_eq_false, Bool.false_eq_true, ne_eq, Decidable.not_not, inB_t, inB_f] at *); omega)
          | skip
        exact ⟨trivial, A, hb, hLA.high e2, hout⟩
    · refine ⟨0, by omega, rfl, rfl, rfl, [], cs0, lo, hb0, by simp, ?_, .nil (Nat.le_refl _), hL, OutOf.refl _ _ _⟩
      rw [hL.len, flat_len 10 _ (fun c hc => by obtain ⟨k, -, rfl⟩ := List.mem_map.1 hc; rfl)]
      simp
  obtain ⟨⟨v, H'⟩, h1, rfl, cs, h2, h3, h4⟩ := key
  exact ⟨H', cs, by rw [call_raw Try.prog cfg0 Try.func66 rfl ok_markMS rfl rfl, h1], h2, h3, h4⟩
end
end Go.Proofs.Ytmncdkecpnoogaa
