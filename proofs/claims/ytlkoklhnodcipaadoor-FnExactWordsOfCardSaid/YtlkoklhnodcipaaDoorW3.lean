/- Contracts: words of a line, the program's side. -/
import Derived.Test.YtlkoklhnodcipaaDoorW2
namespace Go.Proofs.YtlkoklhnodcipaaDoor
open Go Go.RowKit Go.Proofs.YtlkoklhnodcipaaDoor.Eng
set_option linter.unusedSimpArgs false
set_option linter.unusedVariables false
set_option maxRecDepth 100000
set_option maxHeartbeats 1000000
noncomputable section
theorem c_SplitO (s : ByteArray) (hs : s.size ≤ 1048576) : ∀ H, call Tryd.prog cfg0 1 10 [.v (.string s), .v (.string ⟨#[32]⟩)] H = some (.sl H.g 1 0 (cutL 32 s.data.toList).length, H.new (((cutL 32 s.data.toList).map ba).map txcell)) := fun H => by
  rw [call_primo Tryd.prog cfg0 Tryd.func10 (g := splitG) rfl (by kernel_rfl) rfl rfl]
  rw [show [AV.v (.string s), AV.v (.string ⟨#[32]⟩)].mapM (deep H depthD) = some [.v (.string s), .v (.string ⟨#[32]⟩)] from rfl]
  simp only [Option.bind_some, splitG]
  rw [if_pos ⟨by omega, rfl⟩]
  simp only [Option.bind_some]
  have e : Lib.splitB ⟨#[32]⟩ 0 (Lib.countB s ⟨#[32]⟩) s = (cutL 32 s.data.toList).map ba := splitB_cut s 32
  rw [e, show depthD = 10 + 2 from rfl, mat_texts 10 _ (by simpa using cutL_ne 32 s.data.toList)]
  simp only [List.length_map]; rfl
theorem slTO (H : Hp) (e : Env) (b o n : Nat) (lo : Option Operand) (hi : Operand) : aslice Tryd.prog H e 22 (.sl b 1 o n) lo (some hi) none = sliceO (H.h b) b 1 o (bound e 0 lo) (natOf (opd e hi)) := aslice_O u22 sz9 (by omega) H e b o n lo hi
theorem slTOF (H : Hp) (e : Env) (b o n : Nat) (lo : Option Operand) : aslice Tryd.prog H e 22 (.sl b 1 o n) lo none none = sliceO (H.h b) b 1 o (bound e 0 lo) (some n) := aslice_OF u22 sz9 (by omega) H e b o n lo
theorem ok_iW1 : fnOk Tryd.prog cfg0 12 Tryd.f12 = true := by kernel_rfl
theorem p_iW1 (s : ByteArray) : pure Tryd.prog cfg0 12 Tryd.f12 [.v (.string s)] = some (.v (.bool (decide (s.data.toList = []))), true) := by
  refine pure_wp (rs := [.tmp 2]) rfl rfl ?_
  have hp0 : ∀ b, cfg0.pol 12 b = 0 := fun b => rfl
  repeat' (first | ((first | refine wSeqr (fun xx hx => ?_) | refine wIf (fun xx hx => ?_) | refine wReg (fun xx hx => ?_) | (refine wRet ?_; (try simp only [thenQ, blockQ]); refine ends_by (fun xx hx => ?_))); have hc := trivial; (repeat' (simp only [hc, Nat.reduceBEq, go_sem, Nat.reduceAdd, Nat.reduceMul, Nat.reduceSub, Nat.reduceEqDiff, Nat.reduceLT, Nat.reduceLeDiff, Int.reduceEq, Int.reduceLT, Int.reduceLE, reduceIte, aresults, aresult, hp0, str_eqW] at hx; (try (rw [guardL_if] at hx; split at hx <;> rename_i hc)))); all_goals (subst hx; first | (refine ⟨_, rfl, fun ht => ?_, fun ht => ?_⟩ <;> (try simp only [bbs, beq_iff_eq, bne_iff_ne, ne_eq] at ht)) | (refine ⟨_, rfl, ?_⟩; (try simp only [tupOf])))) | refine wSkip ?_ | (refine wExit ?_; simp only [thenQ, blockQ, reduceIte, Nat.reduceEqDiff]) | refine wSeq ?_ | refine wBlock ?_)
  exact gives_boolv rfl
theorem c_iW1 (s : ByteArray) : ∀ H, call Tryd.prog cfg0 0 12 [.v (.string s)] H = some (.v (.bool (decide (s.data.toList = []))), H) :=
  call_fz Tryd.func12 rfl ok_iW1 rfl (by simp only [fz_cons, fz_nil, go_sem, and_self]) (p_iW1 s)

/-- The first text that is empty. -/
def idxE : List ByteArray → Int
  | [] => -1
  | s :: r => if s.data.toList = [] then 0 else if idxE r = -1 then -1 else idxE r + 1
theorem idxE_none {l : List ByteArray} (h : ∀ s ∈ l, neB s = true) : idxE l = -1 := by
  induction l with
  | nil => rfl
  | cons s r ih =>
    have h1 := h s (by simp)
    simp only [neB, decide_eq_true_eq] at h1
    simp only [idxE, if_neg h1, ih fun x hx => h x (by simp [hx]), if_true]
theorem idxE_at {l : List ByteArray} {j : Nat} {s : ByteArray} (h : ∀ s ∈ l.take j, neB s = true) (hg : l[j]? = some s) (hs : s.data.toList = []) : idxE l = j := by
  induction l generalizing j with
  | nil => simp at hg
  | cons y r ih =>
    cases j with
    | zero => simp only [List.getElem?_cons_zero, Option.some.injEq] at hg; subst hg; simp [idxE, hs]
    | succ j =>
      simp only [List.take_succ_cons, List.mem_cons, forall_eq_or_imp] at h
      have h1 := h.1
      simp only [neB, decide_eq_true_eq] at h1
      have := ih h.2 (by simpa using hg)
      simp only [idxE, if_neg h1, this]
      rw [if_neg (by omega)]; omega
theorem take_ne {l : List ByteArray} {j : Nat} {s : ByteArray} (h : ∀ s ∈ l.take j, neB s = true) (hg : l[j]? = some s) (hs : ¬ s.data.toList = []) : ∀ s ∈ l.take (j + 1), neB s = true := fun x hx => by
  rw [List.take_add_one, hg] at hx
  rcases List.mem_append.1 hx with hx | hx
  · exact h x hx
  · simp at hx; subst hx; simpa [neB] using hs
theorem ok_iIdx : fnOk Tryd.prog cfg0 18 Tryd.f18 = true := by kernel_rfl
theorem p_iIdx (l : List ByteArray) (hl : l.length ≤ 4000000) (g : Nat) (hg : ∀ s ∈ l, ∀ H, call Tryd.prog cfg0 0 g [.v (.string s)] H = some (.v (.bool (decide (s.data.toList = []))), H)) : pure Tryd.prog cfg0 18 Tryd.f18 [textsL l, .fn g []] = some (.v (.int .i64 (idxE l)), true) := by
  refine pure_wp (rs := [.tmp 4]) rfl rfl ?_
  have hp0 : ∀ b, cfg0.pol 18 b = 0 := fun b => rfl
  repeat' (first | ((first | refine wSeqr (fun xx hx => ?_) | refine wIf (fun xx hx => ?_) | refine wReg (fun xx hx => ?_) | (refine wRet ?_; (try simp only [thenQ, blockQ]); refine ends_by (fun xx hx => ?_))); have hc := trivial; (repeat' (simp only [hc, Nat.reduceBEq, go_sem, Nat.reduceAdd, Nat.reduceMul, Nat.reduceSub, Nat.reduceEqDiff, Nat.reduceLT, Nat.reduceLeDiff, Int.reduceEq, Int.reduceLT, Int.reduceLE, reduceIte, aresults, aresult, hp0, textsL, List.length_map] at hx; (try (rw [guardL_if] at hx; split at hx <;> rename_i hc)))); all_goals (subst hx; first | (refine ⟨_, rfl, fun ht => ?_, fun ht => ?_⟩ <;> (try simp only [bbs, beq_iff_eq, bne_iff_ne, ne_eq] at ht)) | (refine ⟨_, rfl, ?_⟩; (try simp only [tupOf])))) | refine wSkip ?_ | (refine wExit ?_; simp only [thenQ, blockQ, reduceIte, Nat.reduceEqDiff]) | refine wSeq ?_ | refine wBlock ?_)
  refine wLoop (fun k s => ∃ (j : Nat), j + k = l.length ∧ s.1 0 = .lst false (l.map fun s => [.v (.string s)]) ∧ s.1 1 = .fn g [] ∧ s.1 7 = .v (.int .i64 (l.length : Nat)) ∧ s.1 8 = .v (.int .i64 (j : Nat)) ∧ (∀ s ∈ l.take j, neB s = true)) (fun k s hI => ?_) (l.length) _ ?_
  · obtain ⟨e, H⟩ := s
    obtain ⟨j, hj, h0, h1, h7, h8, htk⟩ := hI
    simp only at h0 h1 h7 h8 htk
    by_cases hlt : j < l.length
    · obtain ⟨y, hgy, hd, hm⟩ := at_drop hlt
      have hg' := get_tx hgy
      have w1 : IntKind.wrap .i64 (((j : Nat) : Int) + 1) = ((j + 1 : Nat) : Int) := wrap_succ (by omega)
      have hcg := hg y hm
      by_cases hy : y.data.toList = []
      · rw [idxE_at htk hgy hy]
        repeat' (first | ((first | refine wSeqr (fun xx hx => ?_) | refine wIf (fun xx hx => ?_) | refine wReg (fun xx hx => ?_) | (refine wRet ?_; (try simp only [thenQ, blockQ]); refine ends_by (fun xx hx => ?_))); have hc := trivial; (repeat' (simp only [hc, Nat.reduceBEq, go_sem, Nat.reduceAdd, Nat.reduceMul, Nat.reduceSub, Nat.reduceEqDiff, Nat.reduceLT, Nat.reduceLeDiff, Int.reduceEq, Int.reduceLT, Int.reduceLE, reduceIte, aresults, aresult, hp0, h0, h1, h7, h8, hg', hcg, hy, w1] at hx; (try (rw [guardL_if] at hx; split at hx <;> rename_i hc)))); all_goals (subst hx; first | (refine ⟨_, rfl, fun ht => ?_, fun ht => ?_⟩ <;> (try simp only [bbs, beq_iff_eq, bne_iff_ne, ne_eq] at ht)) | (refine ⟨_, rfl, ?_⟩; (try simp only [tupOf])))) | refine wSkip ?_ | (refine wExit ?_; simp only [thenQ, blockQ, reduceIte, Nat.reduceEqDiff]) | refine wSeq ?_ | refine wBlock ?_)
        all_goals try (exfalso; (try simp only [bbs, beq_iff_eq, bne_iff_ne, ne_eq] at *); first | omega | exact absurd trivial (by assumption))
        all_goals exact gives_intv rfl
      · repeat' (first | ((first | refine wSeqr (fun xx hx => ?_) | refine wIf (fun xx hx => ?_) | refine wReg (fun xx hx => ?_) | (refine wRet ?_; (try simp only [thenQ, blockQ]); refine ends_by (fun xx hx => ?_))); have hc := trivial; (repeat' (simp only [hc, Nat.reduceBEq, go_sem, Nat.reduceAdd, Nat.reduceMul, Nat.reduceSub, Nat.reduceEqDiff, Nat.reduceLT, Nat.reduceLeDiff, Int.reduceEq, Int.reduceLT, Int.reduceLE, reduceIte, aresults, aresult, hp0, h0, h1, h7, h8, hg', hcg, hy, w1] at hx; (try (rw [guardL_if] at hx; split at hx <;> rename_i hc)))); all_goals (subst hx; first | (refine ⟨_, rfl, fun ht => ?_, fun ht => ?_⟩ <;> (try simp only [bbs, beq_iff_eq, bne_iff_ne, ne_eq] at ht)) | (refine ⟨_, rfl, ?_⟩; (try simp only [tupOf])))) | refine wSkip ?_ | (refine wExit ?_; simp only [thenQ, blockQ, reduceIte, Nat.reduceEqDiff]) | refine wSeq ?_ | refine wBlock ?_)
        all_goals try (exfalso; (try simp only [bbs, beq_iff_eq, bne_iff_ne, ne_eq] at *); first | omega | exact absurd trivial (by assumption))
        refine ⟨_, Nat.sub_lt (by omega) Nat.one_pos, j + 1, by omega, by simp only [upd_eq, Nat.reduceEqDiff, if_false, if_true, h0, h1, h7, h8], by simp only [upd_eq, Nat.reduceEqDiff, if_false, if_true, h0, h1, h7, h8], by simp only [upd_eq, Nat.reduceEqDiff, if_false, if_true, h0, h1, h7, h8], by simp only [upd_eq, Nat.reduceEqDiff, if_false, if_true, h0, h1, h7, h8], ?_⟩
        exact take_ne htk hgy hy
    · have hj' : j = l.length := by omega
      rw [hj', List.take_length] at htk
      rw [idxE_none htk]
      repeat' (first | ((first | refine wSeqr (fun xx hx => ?_) | refine wIf (fun xx hx => ?_) | refine wReg (fun xx hx => ?_) | (refine wRet ?_; (try simp only [thenQ, blockQ]); refine ends_by (fun xx hx => ?_))); have hc := trivial; (repeat' (simp only [hc, Nat.reduceBEq, go_sem, Nat.reduceAdd, Nat.reduceMul, Nat.reduceSub, Nat.reduceEqDiff, Nat.reduceLT, Nat.reduceLeDiff, Int.reduceEq, Int.reduceLT, Int.reduceLE, reduceIte, aresults, aresult, hp0, h7, h8] at hx; (try (rw [guardL_if] at hx; split at hx <;> rename_i hc)))); all_goals (subst hx; first | (refine ⟨_, rfl, fun ht => ?_, fun ht => ?_⟩ <;> (try simp only [bbs, beq_iff_eq, bne_iff_ne, ne_eq] at ht)) | (refine ⟨_, rfl, ?_⟩; (try simp only [tupOf])))) | refine wSkip ?_ | (refine wExit ?_; simp only [thenQ, blockQ, reduceIte, Nat.reduceEqDiff]) | refine wSeq ?_ | refine wBlock ?_)
      all_goals try (exfalso; (try simp only [bbs, beq_iff_eq, bne_iff_ne, ne_eq] at *); first | omega | exact absurd trivial (by assumption))
      all_goals exact gives_intv rfl
  · refine ⟨0, by omega, rfl, rfl, rfl, rfl, fun x hx => by simp at hx⟩
theorem c_iIdx (l : List ByteArray) (hl : l.length ≤ 4000000) (g : Nat) (hg : ∀ s ∈ l, ∀ H, call Tryd.prog cfg0 0 g [.v (.string s)] H = some (.v (.bool (decide (s.data.toList = []))), H)) : ∀ H, call Tryd.prog cfg0 0 18 [textsL l, .fn g []] H = some (.v (.int .i64 (idxE l)), H) :=
  call_fz Tryd.func18 rfl ok_iIdx rfl (by simp only [fz_cons, fz_nil, go_sem, and_self]) (p_iIdx l hl g hg)

/-- The list's own block while it is being thinned out: what was kept, then anything, then what is ahead. -/
def Thin (H : Hp) (b : Nat) (l : List ByteArray) (j m : Nat) : Prop := ∃ mid : List ByteArray, H.h b = some (((l.take j).filter neB ++ mid ++ l.drop j).map txcell) ∧ m = ((l.take j).filter neB).length ∧ m + mid.length = j
theorem fil_all {l : List ByteArray} (h : ∀ s ∈ l, neB s = true) : l.filter neB = l := List.filter_eq_self.2 h
theorem idxE_cases (l : List ByteArray) : (idxE l = -1 ∧ ∀ s ∈ l, neB s = true) ∨ ∃ j s, idxE l = (j : Nat) ∧ l[j]? = some s ∧ s.data.toList = [] ∧ ∀ s ∈ l.take j, neB s = true := by
  induction l with
  | nil => exact .inl ⟨rfl, by simp⟩
  | cons y r ih =>
    by_cases hy : y.data.toList = []
    · exact .inr ⟨0, y, by simp [idxE, hy], rfl, hy, by simp⟩
    · have hyn : neB y = true := by simpa [neB] using hy
      rcases ih with ⟨h1, h2⟩ | ⟨j, s, h1, h2, h3, h4⟩
      · refine .inl ⟨by simp only [idxE, if_neg hy, h1, if_true], fun s hs => ?_⟩
        rcases List.mem_cons.1 hs with rfl | hs
        · exact hyn
        · exact h2 s hs
      · refine .inr ⟨j + 1, s, ?_, by simpa using h2, h3, fun s hs => ?_⟩
        · simp only [idxE, if_neg hy, h1]; rw [if_neg (by omega)]; omega
        · rw [List.take_succ_cons] at hs
          rcases List.mem_cons.1 hs with rfl | hs
          · exact hyn
          · exact h4 s hs
theorem ok_Del : fnOk Tryd.prog cfg0 11 Tryd.f11 = true := by kernel_rfl
theorem d_Del (l : List ByteArray) (hl : l.length ≤ 4000000) (g : Nat) (hg : ∀ s : ByteArray, ∀ H, call Tryd.prog cfg0 0 g [.v (.string s)] H = some (.v (.bool (decide (s.data.toList = []))), H)) {H : Hp} {b : Nat} (hb : H.h b = some (l.map txcell)) (hbg : b < H.g) {q : Option (AV × Hp)} (hq : call Tryd.prog cfg0 0 11 [.sl b 1 0 l.length, .fn g []] H = q) :
    ∃ H' zs, q = some (.sl b 1 0 (l.filter neB).length, H') ∧ H'.h b = some ((l.filter neB ++ zs).map txcell) ∧ H'.g = H.g ∧ ∀ b', b' ≠ b → H'.h b' = H.h b' := by
  subst hq
  have key : ∃ r, body Tryd.prog cfg0 11 Tryd.f11 [.sl b 1 0 l.length, .fn g []] H = some r ∧ (∃ zs, r.1 = .sl b 1 0 (l.filter neB).length ∧ r.2.h b = some ((l.filter neB ++ zs).map txcell) ∧ r.2.g = H.g ∧ ∀ b', b' ≠ b → r.2.h b' = H.h b') := by
    refine body_wp (rs := [.tmp 4]) rfl rfl (R := fun x H' => ∃ zs, x = .sl b 1 0 (l.filter neB).length ∧ H'.h b = some ((l.filter neB ++ zs).map txcell) ∧ H'.g = H.g ∧ ∀ b', b' ≠ b → H'.h b' = H.h b') ?_
    have hp0 : ∀ b, cfg0.pol 11 b = 0 := fun b => rfl
    have hix : call Tryd.prog cfg0 0 18 [.sl b 1 0 l.length, .fn g []] H = some (.v (.int .i64 (idxE l)), H) :=
      call_of (p := 0) (H := H) Tryd.func18 rfl ok_iIdx rfl (by omega) (mapM_c (deep_txts hb rfl hbg 10) (mapM_c rfl mapM_n)) (p_iIdx l hl g fun s _ => hg s) (.inl rfl)
    rcases idxE_cases l with ⟨e1, hall⟩ | ⟨i0, s0, e1, g0, hs0, htk⟩
    · rw [e1] at hix
      repeat' (first | ((first | refine wSeqr (fun xx hx => ?_) | refine wIf (fun xx hx => ?_) | refine wReg (fun xx hx => ?_) | (refine wRet ?_; (try simp only [thenQ, blockQ]); refine ends_by (fun xx hx => ?_))); have hc := trivial; (repeat' (simp only [hc, Nat.reduceBEq, go_sem, Nat.reduceAdd, Nat.reduceMul, Nat.reduceSub, Nat.reduceEqDiff, Nat.reduceLT, Nat.reduceLeDiff, Int.reduceEq, Int.reduceLT, Int.reduceLE, reduceIte, aresults, aresult, hp0, hix] at hx; (try (rw [guardL_if] at hx; split at hx <;> rename_i hc)))); all_goals (subst hx; first | (refine ⟨_, rfl, fun ht => ?_, fun ht => ?_⟩ <;> (try simp only [bbs, beq_iff_eq, bne_iff_ne, ne_eq] at ht)) | (refine ⟨_, rfl, ?_⟩; (try simp only [tupOf])))) | refine wSkip ?_ | (refine wExit ?_; simp only [thenQ, blockQ, reduceIte, Nat.reduceEqDiff]) | refine wSeq ?_ | refine wBlock ?_)
      all_goals try (exfalso; (try simp only [bbs, beq_iff_eq, bne_iff_ne, ne_eq] at *); first | omega | exact absurd trivial (by assumption))
      exact ⟨[], by rw [fil_all hall], by rw [fil_all hall, List.append_nil]; exact hb, by first | trivial | rfl, fun _ _ => by first | trivial | rfl⟩
    · rw [e1] at hix
      have hi1 : ¬ ((i0 : Nat) : Int) = -1 := by omega
      have hil := (List.getElem?_eq_some_iff.1 g0).1
      have w0 : IntKind.wrap .i64 (((i0 : Nat) : Int) + 1) = ((i0 + 1 : Nat) : Int) := wrap_succ (by omega)
      have hf0 := fil_take g0
      rw [if_pos hs0, List.append_nil, fil_all htk] at hf0
      repeat' ((fail_if_success (first | refine wAt 11 ?_)); first | ((first | refine wSeqr (fun xx hx => ?_) | refine wIf (fun xx hx => ?_) | refine wReg (fun xx hx => ?_) | (refine wRet ?_; (try simp only [thenQ, blockQ]); refine ends_by (fun xx hx => ?_))); have hc := trivial; (repeat' (simp only [hc, Nat.reduceBEq, go_sem, Nat.reduceAdd, Nat.reduceMul, Nat.reduceSub, Nat.reduceEqDiff, Nat.reduceLT, Nat.reduceLeDiff, Int.reduceEq, Int.reduceLT, Int.reduceLE, reduceIte, aresults, aresult, hp0, hix, hi1, w0] at hx; (try (rw [guardL_if] at hx; split at hx <;> rename_i hc)))); all_goals (subst hx; first | (refine ⟨_, rfl, fun ht => ?_, fun ht => ?_⟩ <;> (try simp only [bbs, beq_iff_eq, bne_iff_ne, ne_eq] at ht)) | (refine ⟨_, rfl, ?_⟩; (try simp only [tupOf])))) | refine wSkip ?_ | (refine wExit ?_; simp only [thenQ, blockQ, reduceIte, Nat.reduceEqDiff]) | refine wSeq ?_ | refine wBlock ?_)
      all_goals try (exfalso; (try simp only [bbs, beq_iff_eq, bne_iff_ne, ne_eq] at *); first | omega | exact absurd trivial (by assumption))
      refine wLoop (fun k s => ∃ (j : Nat) (m : Nat), j + k = l.length - (i0 + 1) ∧ s.1 0 = .sl b 1 0 l.length ∧ s.1 1 = .fn g [] ∧ s.1 5 = .v (.int .i64 (m : Nat)) ∧ s.1 6 = .v (.int .i64 ((i0 + 1 + j : Nat) : Int)) ∧ (Thin s.2 b l (i0 + 1 + j) m) ∧ (s.2.g = H.g ∧ ∀ b', b' ≠ b → s.2.h b' = H.h b')) (fun k s hI => ?_) (l.length - (i0 + 1)) _ ?_
      · obtain ⟨e, K⟩ := s
        obtain ⟨j, m, hj, h0, h1, h5, h6, hth, hgk⟩ := hI
        simp only at h0 h1 h5 h6 hth hgk
        obtain ⟨mid, hbk, hm, hml⟩ := hth
        by_cases hlt : i0 + 1 + j < l.length
        · obtain ⟨y, hgy, hd, hym⟩ := at_drop hlt
          have hft := fil_take hgy
          have hltI : ((i0 + 1 + j : Nat) : Int) < (l.length : Int) := by omega
          have w1 : IntKind.wrap .i64 (((i0 + 1 + j : Nat) : Int) + 1) = ((i0 + 1 + (j + 1) : Nat) : Int) := by rw [wrap_i64 (by omega) (by omega)]; omega
          have wm : IntKind.wrap .i64 (((m : Nat) : Int) + 1) = ((m + 1 : Nat) : Int) := wrap_succ (by omega)
          have hgp : (((l.take (i0 + 1 + j)).filter neB ++ mid ++ l.drop (i0 + 1 + j)).map txcell)[i0 + 1 + j]? = some (txcell y) := by
            rw [List.getElem?_map, List.getElem?_append_right (by rw [List.length_append]; omega), List.length_append, hd, show i0 + 1 + j - (((l.take (i0 + 1 + j)).filter neB).length + mid.length) = 0 by omega]
            rfl
          have hlen : (((l.take (i0 + 1 + j)).filter neB ++ mid ++ l.drop (i0 + 1 + j)).map txcell).length = l.length := by
            rw [List.length_map, List.length_append, List.length_append, List.length_drop]; omega
          have hcg := hg y
          by_cases hy : y.data.toList = []
          · rw [if_pos hy, List.append_nil] at hft
            repeat' (first | ((first | refine wSeqr (fun xx hx => ?_) | refine wIf (fun xx hx => ?_) | refine wReg (fun xx hx => ?_) | (refine wRet ?_; (try simp only [thenQ, blockQ]); refine ends_by (fun xx hx => ?_))); have hc := trivial; (repeat' (simp only [hc, Nat.reduceBEq, go_sem, Nat.reduceAdd, Nat.reduceMul, Nat.reduceSub, Nat.reduceEqDiff, Nat.reduceLT, Nat.reduceLeDiff, Int.reduceEq, Int.reduceLT, Int.reduceLE, reduceIte, aresults, aresult, hp0, h0, h1, h5, h6, hltI, hbk, Option.isSome_some, hlt, hgp, txcell, hcg, hy, w1] at hx; (try (rw [guardL_if] at hx; split at hx <;> rename_i hc)))); all_goals (subst hx; first | (refine ⟨_, rfl, fun ht => ?_, fun ht => ?_⟩ <;> (try simp only [bbs, beq_iff_eq, bne_iff_ne, ne_eq] at ht)) | (refine ⟨_, rfl, ?_⟩; (try simp only [tupOf])))) | refine wSkip ?_ | (refine wExit ?_; simp only [thenQ, blockQ, reduceIte, Nat.reduceEqDiff]) | refine wSeq ?_ | refine wBlock ?_)
            all_goals try (exfalso; (try simp only [bbs, beq_iff_eq, bne_iff_ne, ne_eq] at *); first | omega | exact absurd trivial (by assumption))
            refine ⟨_, Nat.sub_lt (by omega) Nat.one_pos, j + 1, m, by omega, by simp only [upd_eq, Nat.reduceEqDiff, if_false, if_true, h0, h1, h5, h6], by simp only [upd_eq, Nat.reduceEqDiff, if_false, if_true, h0, h1, h5, h6], by simp only [upd_eq, Nat.reduceEqDiff, if_false, if_true, h0, h1, h5, h6], by simp only [upd_eq, Nat.reduceEqDiff, if_false, if_true, h0, h1, h5, h6], ?_⟩
            refine ⟨⟨mid ++ [y], ?_, by rw [← Nat.add_assoc, hft]; exact hm, by rw [List.length_append, List.length_singleton]; omega⟩, hgk⟩
            rw [hbk, hd, ← Nat.add_assoc, hft]; simp
          · rw [if_neg hy] at hft
            have hml2 : m < l.length := by omega
            have hml3 : m + 1 ≤ (((l.take (i0 + 1 + j)).filter neB ++ mid ++ l.drop (i0 + 1 + j)).map txcell).length := by omega
            repeat' (first | ((first | refine wSeqr (fun xx hx => ?_) | refine wIf (fun xx hx => ?_) | refine wReg (fun xx hx => ?_) | (refine wRet ?_; (try simp only [thenQ, blockQ]); refine ends_by (fun xx hx => ?_))); have hc := trivial; (repeat' (simp only [hc, Nat.reduceBEq, go_sem, Nat.reduceAdd, Nat.reduceMul, Nat.reduceSub, Nat.reduceEqDiff, Nat.reduceLT, Nat.reduceLeDiff, Int.reduceEq, Int.reduceLT, Int.reduceLE, reduceIte, aresults, aresult, hp0, h0, h1, h5, h6, hltI, hbk, Option.isSome_some, hlt, hml2, hml3, hgp, txcell, hcg, hy, w1, wm] at hx; (try (rw [guardL_if] at hx; split at hx <;> rename_i hc)))); all_goals (subst hx; first | (refine ⟨_, rfl, fun ht => ?_, fun ht => ?_⟩ <;> (try simp only [bbs, beq_iff_eq, bne_iff_ne, ne_eq] at ht)) | (refine ⟨_, rfl, ?_⟩; (try simp only [tupOf])))) | refine wSkip ?_ | (refine wExit ?_; simp only [thenQ, blockQ, reduceIte, Nat.reduceEqDiff]) | refine wSeq ?_ | refine wBlock ?_)
            all_goals try (exfalso; (try simp only [bbs, beq_iff_eq, bne_iff_ne, ne_eq] at *); first | omega | exact absurd trivial (by assumption))
            refine ⟨_, Nat.sub_lt (by omega) Nat.one_pos, j + 1, m + 1, by omega, by simp only [upd_eq, Nat.reduceEqDiff, if_false, if_true, h0, h1, h5, h6], by simp only [upd_eq, Nat.reduceEqDiff, if_false, if_true, h0, h1, h5, h6], by simp only [upd_eq, Nat.reduceEqDiff, if_false, if_true, h0, h1, h5, h6], by simp only [upd_eq, Nat.reduceEqDiff, if_false, if_true, h0, h1, h5, h6], ?_⟩
            have hbs : ((((l.take (i0 + 1 + j)).filter neB ++ mid ++ l.drop (i0 + 1 + j)).map txcell).set m (txcell y)) = ((l.take (i0 + 1 + (j + 1))).filter neB ++ (mid.drop 1 ++ (if mid = [] then [] else [y])) ++ l.drop (i0 + 1 + (j + 1))).map txcell := by
              rw [← List.map_set, hd, ← Nat.add_assoc, hft, hm, List.append_assoc, List.set_append_right _ _ (Nat.le_refl _), Nat.sub_self]
              cases mid with
              | nil => simp
              | cons z mid => simp
            refine ⟨⟨mid.drop 1 ++ (if mid = [] then [] else [y]), ?_, by rw [← Nat.add_assoc, hft, List.length_append, ← hm]; rfl, ?_⟩, ⟨hgk.1, fun b' hne => by rw [Hp.set_h, if_neg hne]; exact hgk.2 b' hne⟩⟩
            · rw [← hbs]; exact if_pos rfl
            · cases mid with
              | nil => simp at hml ⊢; omega
              | cons z mid => simp at hml ⊢; omega
        · have hltI : ¬ ((i0 + 1 + j : Nat) : Int) < (l.length : Int) := by omega
          have hpe : i0 + 1 + j = l.length := by omega
          rw [hpe, List.take_length, List.drop_length, List.append_nil] at hbk
          rw [hpe, List.take_length] at hm
          have hmid : mid.length = l.length - m := by omega
          have hlen : ((l.filter neB ++ mid).map txcell).length = l.length := by rw [List.length_map, List.length_append]; omega
          repeat' ((fail_if_success (first | refine wAt 11 ?_)); first | ((first | refine wSeqr (fun xx hx => ?_) | refine wIf (fun xx hx => ?_) | refine wReg (fun xx hx => ?_) | (refine wRet ?_; (try simp only [thenQ, blockQ]); refine ends_by (fun xx hx => ?_))); have hc := trivial; (repeat' (simp only [hc, Nat.reduceBEq, go_sem, Nat.reduceAdd, Nat.reduceMul, Nat.reduceSub, Nat.reduceEqDiff, Nat.reduceLT, Nat.reduceLeDiff, Int.reduceEq, Int.reduceLT, Int.reduceLE, reduceIte, aresults, aresult, hp0, h0, h6, hltI] at hx; (try (rw [guardL_if] at hx; split at hx <;> rename_i hc)))); all_goals (subst hx; first | (refine ⟨_, rfl, fun ht => ?_, fun ht => ?_⟩ <;> (try simp only [bbs, beq_iff_eq, bne_iff_ne, ne_eq] at ht)) | (refine ⟨_, rfl, ?_⟩; (try simp only [tupOf])))) | refine wSkip ?_ | (refine wExit ?_; simp only [thenQ, blockQ, reduceIte, Nat.reduceEqDiff]) | refine wSeq ?_ | refine wBlock ?_)
          all_goals try (exfalso; (try simp only [bbs, beq_iff_eq, bne_iff_ne, ne_eq] at *); first | omega | exact absurd trivial (by assumption))
          have hml4 : m ≤ l.length := by omega
          have hcA : (m ≤ l.length ∧ l.length ≤ ((l.filter neB ++ mid).map txcell).length) = True := eq_true ⟨by omega, by omega⟩
          have hcB : (m + (l.length - m) ≤ ((l.filter neB ++ mid).map txcell).length) = True := eq_true (by omega)
          have hset : setAll ((l.filter neB ++ mid).map txcell) m (List.replicate (l.length - m) (txcell ⟨#[]⟩)) = (l.filter neB ++ List.replicate (l.length - m) (⟨#[]⟩ : ByteArray)).map txcell := by
            have h1 := setAll_mid (List.replicate (l.length - m) (txcell ⟨#[]⟩)) ((l.filter neB).map txcell) (mid.map txcell) [] (by simp [hmid])
            rw [List.append_nil, List.append_nil, List.length_map, ← hm] at h1
            rw [List.map_append, h1, List.map_append, List.map_replicate]
          have hcD : (0 ≤ m ∧ m ≤ ((l.filter neB ++ List.replicate (l.length - m) (⟨#[]⟩ : ByteArray)).map txcell).length) = True := eq_true ⟨Nat.zero_le _, by rw [List.length_map, List.length_append]; omega⟩
          have hst : AV.v (.string ⟨#[]⟩) = txcell ⟨#[]⟩ := rfl
          repeat' (first | ((first | refine wSeqr (fun xx hx => ?_) | refine wIf (fun xx hx => ?_) | refine wReg (fun xx hx => ?_) | (refine wRet ?_; (try simp only [thenQ, blockQ]); refine ends_by (fun xx hx => ?_))); have hc := trivial; (repeat' (simp only [hc, Nat.reduceBEq, go_sem, Nat.reduceAdd, Nat.reduceMul, Nat.reduceSub, Nat.reduceEqDiff, Nat.reduceLT, Nat.reduceLeDiff, Int.reduceEq, Int.reduceLT, Int.reduceLE, reduceIte, aresults, aresult, hp0, h0, h5, hbk, slTO, slTOF, hcA, aclear, el22, zero9, hst, hcB, hset, hcD, Nat.sub_zero] at hx; (try (rw [guardL_if] at hx; split at hx <;> rename_i hc)))); all_goals (subst hx; first | (refine ⟨_, rfl, fun ht => ?_, fun ht => ?_⟩ <;> (try simp only [bbs, beq_iff_eq, bne_iff_ne, ne_eq] at ht)) | (refine ⟨_, rfl, ?_⟩; (try simp only [tupOf])))) | refine wSkip ?_ | (refine wExit ?_; simp only [thenQ, blockQ, reduceIte, Nat.reduceEqDiff]) | refine wSeq ?_ | refine wBlock ?_)
          all_goals try (exfalso; (try simp only [bbs, beq_iff_eq, bne_iff_ne, ne_eq] at *); first | omega | exact absurd trivial (by assumption))
          exact ⟨List.replicate (l.length - m) ⟨#[]⟩, by rw [hm], if_pos rfl, hgk.1, fun b' hne => by rw [Hp.set_h, if_neg hne]; exact hgk.2 b' hne⟩
      · refine ⟨0, i0, by omega, rfl, rfl, rfl, ?_, ?_⟩
        · simp only [upd_eq, Nat.reduceEqDiff, if_false, if_true]
        · refine ⟨⟨[s0], ?_, ?_, ?_⟩, rfl, fun _ _ => rfl⟩
          · rw [Nat.add_zero, hf0]
            have : l.take i0 ++ [s0] ++ l.drop (i0 + 1) = l := by
              have h1 := List.take_append_drop i0 l
              rw [List.drop_eq_getElem_cons hil, (List.getElem?_eq_some_iff.1 g0).2] at h1
              simpa using h1
            rw [this]; exact hb
          · rw [Nat.add_zero, hf0, List.length_take]; omega
          · simp
  obtain ⟨⟨v, H'⟩, h1, zs, rfl, h2, h3⟩ := key
  exact ⟨H', zs, by rw [call_raw Tryd.prog cfg0 Tryd.func11 rfl ok_Del rfl rfl, h1], h2, h3⟩
theorem gO_trs {H : Hp} {b : Nat} {l zs : List ByteArray} {c : Int} (h : H.h b = some ((l ++ zs).map txcell)) (hb : b < H.g) : GivesO (.agg [.v (.int .i64 c), textsL l]) (.agg [.v (.int .i64 c), .sl b 1 0 l.length]) H := by
  have hcut : (((l ++ zs).map txcell).drop 0).take (l.length * 1) = l.map txcell := by
    rw [List.drop_zero, Nat.mul_one, List.map_append, List.take_left' (by simp)]
  have hd : deep H 11 (.sl b 1 0 l.length) = some (textsL l) := by
    show ((H.h b).bind fun cs => if 0 + l.length * 1 ≤ cs.length ∧ 0 < 1 then (((cs.drop 0).take (l.length * 1)).mapM (deep H 10)).map fun ds => AV.lst false (chunk 1 l.length ds) else none) = _
    rw [h, Option.bind_some, hcut, if_pos ⟨by simp, by omega⟩]
    have h3 : (l.map txcell).mapM (deep H 10) = some (l.map txcell) := mapM_self fun x hx => by
      obtain ⟨z, -, rfl⟩ := List.mem_map.1 hx; rfl
    have := chunk_flat 1 (l.map fun s => [AV.v (.string s)]) (fun c hc => by obtain ⟨z, -, rfl⟩ := List.mem_map.1 hc; rfl)
    rw [txcells_flat, List.length_map] at this
    rw [h3, Option.map_some, this]; rfl
  have hcl : clean H 11 (.sl b 1 0 l.length) = true := by
    show ((((H.h b).getD []).drop 0).take (l.length * 1)).all (clean H 10) = true
    rw [h, Option.getD_some, hcut]
    exact List.all_eq_true.2 fun x hx => by obtain ⟨z, -, rfl⟩ := List.mem_map.1 hx; rfl
  obtain ⟨fp, f1, f2, -⟩ := fpt_flat (d := 10) h (sz := 1) (o := 0) (n := l.length) (fun c hc => by obtain ⟨s, -, rfl⟩ := List.mem_map.1 hc; rfl)
  refine ⟨⟨?_, ?_⟩, fp, ?_, f2⟩
  · show ([AV.v (.int .i64 c), .sl b 1 0 l.length].mapM (deep H 11)).map AV.agg = _
    rw [mapM_c (show deep H 11 (.v (.int .i64 c)) = some (.v (.int .i64 c)) from rfl) (mapM_c hd mapM_n)]; rfl
  · show [AV.v (.int .i64 c), .sl b 1 0 l.length].all (clean H 11) = true
    simp only [List.all_cons, List.all_nil, hcl, Bool.and_true]; rfl
  · show ([AV.v (.int .i64 c), .sl b 1 0 l.length].mapM (fpt H 11)).map List.flatten = some fp
    rw [show [AV.v (.int .i64 c), .sl b 1 0 l.length].mapM (fpt H 11) = some [[], fp] from mapM_cons_some.2 ⟨_, _, rfl, mapM_cons_some.2 ⟨_, _, f1, rfl, rfl⟩, rfl⟩]
    simp
theorem ok_iWordsOf : fnOk Tryd.prog cfg0 5 Tryd.f5 = true := by kernel_rfl
theorem pq_iWordsOf (a : ByteArray) (hs : a.size ≤ 1048576) : pure Tryd.prog cfg0 5 Tryd.f5 [.v (.string a)] = some (.agg [.v (.int .i64 (wC a.data.toList)), textsL (wW a.data.toList)], true) ∧ owned Tryd.prog cfg0 5 Tryd.f5 [.v (.string a)] = some (.agg [.v (.int .i64 (wC a.data.toList)), textsL (wW a.data.toList)]) := by
  refine both_wp (rs := [.cell 2 24]) rfl rfl ?_
  have hp0 : ∀ b, cfg0.pol 5 b = (if b = 9 then 1 else 0) := fun b => rfl
  have hsz : a.size = a.data.toList.length := by rw [ByteArray.size]; simp
  by_cases hbig : 3000 < a.data.toList.length
  · have hbI : 3000 < (a.size : Int) := by omega
    rw [show wC a.data.toList = 2 from if_pos hbig, show wW a.data.toList = [] from if_pos hbig]
    repeat' (first | ((first | refine wSeqr (fun xx hx => ?_) | refine wIf (fun xx hx => ?_) | refine wReg (fun xx hx => ?_) | (refine wRet ?_; (try simp only [thenQ, blockQ]); refine ends_by (fun xx hx => ?_))); have hc := trivial; (repeat' (simp only [hc, Nat.reduceBEq, go_sem, Nat.reduceAdd, Nat.reduceMul, Nat.reduceSub, Nat.reduceEqDiff, Nat.reduceLT, Nat.reduceLeDiff, Int.reduceEq, Int.reduceLT, Int.reduceLE, reduceIte, aresults, aresult, hp0, hbI] at hx; (try (rw [guardL_if] at hx; split at hx <;> rename_i hc)))); all_goals (subst hx; first | (refine ⟨_, rfl, fun ht => ?_, fun ht => ?_⟩ <;> (try simp only [bbs, beq_iff_eq, bne_iff_ne, ne_eq] at ht)) | (refine ⟨_, rfl, ?_⟩; (try simp only [tupOf])))) | refine wSkip ?_ | (refine wExit ?_; simp only [thenQ, blockQ, reduceIte, Nat.reduceEqDiff]) | refine wSeq ?_ | refine wBlock ?_)
    all_goals try (exfalso; (try simp only [bbs, beq_iff_eq, bne_iff_ne, ne_eq] at *); first | omega | exact absurd trivial (by assumption))
    all_goals exact ⟨⟨rfl, rfl⟩, [], rfl, List.nodup_nil⟩
  · have hbI : ¬ 3000 < (a.size : Int) := by omega
    rw [show wC a.data.toList = 0 from if_neg hbig, show wW a.data.toList = (wordsL a.data.toList).map ba from if_neg hbig, ← wordsL_ba]
    have hsp := c_SplitO a hs
    have hP : ((cutL 32 a.data.toList).map ba).length ≤ a.size + 1 := by rw [List.length_map]; have := cut_size 32 a.data.toList; omega
    have hPl : (cutL 32 a.data.toList).length = ((cutL 32 a.data.toList).map ba).length := by simp
    rw [hPl] at hsp
    generalize (cutL 32 a.data.toList).map ba = P at hsp hP
    repeat' ((fail_if_success (first | refine wAt 4 ?_)); first | ((first | refine wSeqr (fun xx hx => ?_) | refine wIf (fun xx hx => ?_) | refine wReg (fun xx hx => ?_) | (refine wRet ?_; (try simp only [thenQ, blockQ]); refine ends_by (fun xx hx => ?_))); have hc := trivial; (repeat' (simp only [hc, Nat.reduceBEq, go_sem, Nat.reduceAdd, Nat.reduceMul, Nat.reduceSub, Nat.reduceEqDiff, Nat.reduceLT, Nat.reduceLeDiff, Int.reduceEq, Int.reduceLT, Int.reduceLE, reduceIte, aresults, aresult, hp0, hbI, hsp] at hx; (try (rw [guardL_if] at hx; split at hx <;> rename_i hc)))); all_goals (subst hx; first | (refine ⟨_, rfl, fun ht => ?_, fun ht => ?_⟩ <;> (try simp only [bbs, beq_iff_eq, bne_iff_ne, ne_eq] at ht)) | (refine ⟨_, rfl, ?_⟩; (try simp only [tupOf])))) | refine wSkip ?_ | (refine wExit ?_; simp only [thenQ, blockQ, reduceIte, Nat.reduceEqDiff]) | refine wSeq ?_ | refine wBlock ?_)
    all_goals try (exfalso; (try simp only [bbs, beq_iff_eq, bne_iff_ne, ne_eq] at *); first | omega | exact absurd trivial (by assumption))
    (first | refine wSeqr (fun xx hx => ?_) | refine wReg (fun xx hx => ?_)); have hc := trivial; (repeat' (simp only [hc, Nat.reduceBEq, go_sem, Nat.reduceAdd, Nat.reduceMul, Nat.reduceSub, Nat.reduceEqDiff, Nat.reduceLT, Nat.reduceLeDiff, Int.reduceEq, Int.reduceLT, Int.reduceLE, reduceIte, aresults, aresult, hp0] at hx; (try (rw [guardL_if] at hx; split at hx <;> rename_i hc)))); generalize hq : call Tryd.prog cfg0 0 _ _ _ = q at hx
    obtain ⟨K2, zs, rfl, d1, d2, d3⟩ := d_Del P (by omega) _ (fun s => c_iW1 s) (H := (Hp.nil.new [.v (.int .i64 0), .v (.slice none 0 0)]).new (P.map txcell)) (b := 1) rfl (by show 1 < 2; omega) hq
    clear hq
    have d4 : K2.h 0 = some [.v (.int .i64 0), .v (.slice none 0 0)] := d3 0 (by show 0 ≠ 1; omega)
    have hc := trivial; (repeat' (simp only [hc, Nat.reduceBEq, go_sem, Nat.reduceAdd, Nat.reduceMul, Nat.reduceSub, Nat.reduceEqDiff, Nat.reduceLT, Nat.reduceLeDiff, Int.reduceEq, Int.reduceLT, Int.reduceLE, reduceIte, aresults, aresult, hp0, d4] at hx; (try (rw [guardL_if] at hx; split at hx <;> rename_i hc)))); all_goals (subst hx; refine ⟨_, rfl, ?_⟩)
    repeat' (first | ((first | refine wSeqr (fun xx hx => ?_) | refine wIf (fun xx hx => ?_) | refine wReg (fun xx hx => ?_) | (refine wRet ?_; (try simp only [thenQ, blockQ]); refine ends_by (fun xx hx => ?_))); have hc := trivial; (repeat' (simp only [hc, Nat.reduceBEq, go_sem, Nat.reduceAdd, Nat.reduceMul, Nat.reduceSub, Nat.reduceEqDiff, Nat.reduceLT, Nat.reduceLeDiff, Int.reduceEq, Int.reduceLT, Int.reduceLE, reduceIte, aresults, aresult, hp0] at hx; (try (rw [guardL_if] at hx; split at hx <;> rename_i hc)))); all_goals (subst hx; first | (refine ⟨_, rfl, fun ht => ?_, fun ht => ?_⟩ <;> (try simp only [bbs, beq_iff_eq, bne_iff_ne, ne_eq] at ht)) | (refine ⟨_, rfl, ?_⟩; (try simp only [tupOf])))) | refine wSkip ?_ | (refine wExit ?_; simp only [thenQ, blockQ, reduceIte, Nat.reduceEqDiff]) | refine wSeq ?_ | refine wBlock ?_)
    all_goals try (exfalso; (try simp only [bbs, beq_iff_eq, bne_iff_ne, ne_eq] at *); first | omega | exact absurd trivial (by assumption))
    exact gO_trs (zs := zs) (by rw [Hp.set_h, if_neg (by show ¬ 1 = 0; omega)]; exact d1) (by show 1 < K2.g; rw [d2]; show 1 < 2; omega)
theorem p_iWordsOf (a : ByteArray) (hs : a.size ≤ 1048576) : pure Tryd.prog cfg0 5 Tryd.f5 [.v (.string a)] = some (.agg [.v (.int .i64 (wC a.data.toList)), textsL (wW a.data.toList)], true) := (pq_iWordsOf a hs).1
theorem c_iWordsOf (a : ByteArray) (hs : a.size ≤ 1048576) : ∀ H, call Tryd.prog cfg0 0 5 [.v (.string a)] H = some (.agg [.v (.int .i64 (wC a.data.toList)), textsL (wW a.data.toList)], H) :=
  call_fz Tryd.func5 rfl ok_iWordsOf rfl (by simp only [fz_cons, fz_nil, go_sem, and_self]) (pq_iWordsOf a hs).1
theorem o_iWordsOf (a : ByteArray) (hs : a.size ≤ 1048576) : ∀ H, call Tryd.prog cfg0 1 5 [.v (.string a)] H = mat depthD (.agg [.v (.int .i64 (wC a.data.toList)), textsL (wW a.data.toList)]) H := fun H =>
  call_ofO Tryd.func5 rfl ok_iWordsOf rfl (mapM_self fun x hx => ((show ∀ x ∈ ([.v (.string a)] : List AV), Fz depthD x by simp only [fz_cons, fz_nil, go_sem, and_self]) x hx).1 H) (pq_iWordsOf a hs).2

end
end Go.Proofs.YtlkoklhnodcipaaDoor
