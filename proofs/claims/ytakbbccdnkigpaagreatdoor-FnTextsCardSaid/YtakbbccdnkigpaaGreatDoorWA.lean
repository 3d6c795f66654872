/- Plain laws: a text cut at a sign. Contracts: words of a line, the reference's side. Contracts: words of a line, the program's side. -/
import Derived.Test.YtakbbccdnkigpaaGreatDoorH4
import Derived.Lib.Split
import Derived.Lib.SplitLaws
namespace Go.Proofs.YtakbbccdnkigpaaGreatDoor
open Go Go.RowKit Go.Proofs.YtakbbccdnkigpaaGreatDoor.Eng
set_option linter.unusedSimpArgs false
set_option linter.unusedVariables false
set_option maxRecDepth 100000
noncomputable section
def ba (l : List UInt8) : ByteArray := ⟨l.toArray⟩
theorem ba_of (s : ByteArray) : ba s.data.toList = s := by cases s; simp [ba]
/-- A list cut at a sign. -/
def cutL (c : UInt8) : List UInt8 → List (List UInt8)
  | [] => [[]]
  | b :: l => if (b == c) = true then [] :: cutL c l else match cutL c l with
    | [] => [[b]]
    | p :: ps => (b :: p) :: ps
theorem cutL_ne (c : UInt8) : ∀ l, cutL c l ≠ [] := by
  intro l
  cases l with
  | nil => simp [cutL]
  | cons b l =>
    unfold cutL
    split
    · simp
    · split <;> simp
/-- The first piece, lengthened at its head. -/
def pre (q : List UInt8) : List (List UInt8) → List (List UInt8)
  | [] => [q]
  | p :: ps => (q ++ p) :: ps
theorem pre_nil {l : List (List UInt8)} (h : l ≠ []) : pre [] l = l := by
  cases l with
  | nil => exact absurd rfl h
  | cons p ps => rfl
theorem cut_hit {c b : UInt8} {l q : List UInt8} (h : b = c) : pre q (cutL c (b :: l)) = q :: cutL c l := by
  subst h
  have e : cutL b (b :: l) = [] :: cutL b l := by show (if (b == b) = true then _ else _) = _; rw [if_pos (by simp)]
  rw [e]
  show (q ++ []) :: cutL b l = q :: cutL b l
  rw [List.append_nil]
theorem cut_miss {c b : UInt8} {l q : List UInt8} (h : ¬ b = c) : pre q (cutL c (b :: l)) = pre (q ++ [b]) (cutL c l) := by
  have e : cutL c (b :: l) = match cutL c l with
    | [] => [[b]]
    | p :: ps => (b :: p) :: ps := by show (if (b == c) = true then _ else _) = _; rw [if_neg (by simpa using h)]
  rw [e]
  cases hc : cutL c l with
  | nil => exact absurd hc (cutL_ne c l)
  | cons p ps => simp [pre]
theorem splitK_cut (c : UInt8) : ∀ l : List UInt8, Lib.splitK [c] 0 (Lib.count l [c]) l = cutL c l := by
  intro l
  induction l with
  | nil => rfl
  | cons b l ih =>
    by_cases h : b = c
    · subst h
      have hix : Lib.index (b :: l) [b] = ((0 : Nat) : Int) := by rw [Lib.index]; simp [List.isPrefixOf]
      have e : cutL b (b :: l) = [] :: cutL b l := by show (if (b == b) = true then _ else _) = _; rw [if_pos (by simp)]
      rw [Lib.count_cons_eq, Nat.add_comm, e, ← ih]
      show (if Lib.index (b :: l) [b] == -1 then _ else _) = _
      rw [hix]; simp
    · have hp : ([c] : List UInt8).isPrefixOf (b :: l) = false := by simp [List.isPrefixOf, Ne.symm h]
      have hix : Lib.index (b :: l) [c] = if Lib.index l [c] == -1 then -1 else Lib.index l [c] + 1 := by rw [Lib.index, hp]; simp
      have e : cutL c (b :: l) = match cutL c l with
        | [] => [[b]]
        | p :: ps => (b :: p) :: ps := by show (if (b == c) = true then _ else _) = _; rw [if_neg (by simpa using h)]
      rw [Lib.count_cons_ne b c l h, e, ← ih]
      by_cases hm : Lib.index l [c] = -1
      · rw [Lib.count_miss hm]; rfl
      · have hge := Lib.index_ge l [c]
        obtain ⟨j, hj⟩ : ∃ j : Nat, Lib.index l [c] = j := ⟨(Lib.index l [c]).toNat, by omega⟩
        have hix' : Lib.index (b :: l) [c] = ((j + 1 : Nat) : Int) := by rw [hix, if_neg (fun e => hm (beq_iff_eq.1 e)), hj]; omega
        rw [Lib.count_hit (by simp) hj, Nat.add_comm]
        have u1 : ∀ k (l : List UInt8) (i : Nat), Lib.index l [c] = (i : Nat) → Lib.splitK [c] 0 (k + 1) l = l.take i :: Lib.splitK [c] 0 k (l.drop (i + 1)) := fun k l i hi => by
          show (if Lib.index l [c] == -1 then _ else _) = _
          rw [hi, if_neg (by simp)]; simp
        rw [u1 _ _ _ hix', u1 _ _ _ hj]
        simp
/-- What strings.Split gives, at one sign. -/
theorem splitB_cut (s : ByteArray) (c : UInt8) : Lib.splitB (ba [c]) 0 (Lib.countB s (ba [c])) s = (cutL c s.data.toList).map ba := by
  have h := Lib.splitB_data (ba [c]) 0 (Lib.countB s (ba [c])) s
  have h2 : Lib.splitK (ba [c]).data.toList 0 (Lib.countB s (ba [c])) s.data.toList = cutL c s.data.toList := splitK_cut c s.data.toList
  rw [h2] at h
  rw [← h, List.map_map]
  have : (ba ∘ fun (x : ByteArray) => x.data.toList) = id := by funext x; exact ba_of x
  rw [this, List.map_id]
theorem cut_size (c : UInt8) : ∀ l : List UInt8, (cutL c l).length ≤ l.length + 1 := by
  intro l
  induction l with
  | nil => simp [cutL]
  | cons b l ih =>
    unfold cutL
    split
    · simp only [List.length_cons]; omega
    · split
      · simp
      · rename_i h; rw [h] at ih; simp only [List.length_cons] at ih ⊢; omega
/-- The words of a line: its pieces that are not empty. -/
def wordsL (l : List UInt8) : List (List UInt8) := (cutL 32 l).filter fun p => decide (¬ p = [])
def neB (s : ByteArray) : Bool := decide (¬ s.data.toList = [])
theorem wordsL_ba (l : List UInt8) : ((cutL 32 l).map ba).filter neB = (wordsL l).map ba := by
  unfold wordsL
  rw [List.filter_map]
  rfl
end
end Go.Proofs.YtakbbccdnkigpaaGreatDoor
namespace Go.Proofs.YtakbbccdnkigpaaGreatDoor
open Go Go.RowKit Go.Proofs.YtakbbccdnkigpaaGreatDoor.Eng
set_option linter.unusedSimpArgs false
set_option linter.unusedVariables false
set_option maxRecDepth 100000
set_option maxHeartbeats 1000000
noncomputable section
theorem get_tx {l : List ByteArray} {j : Nat} {x : ByteArray} (h : l[j]? = some x) : (l.map fun s => [AV.v (.string s)])[j]? = some [.v (.string x)] := by rw [List.getElem?_map, h]; rfl
theorem str_eqW (a b : ByteArray) : (a.toList == b.toList) = decide (a.data.toList = b.data.toList) := by
  have e : ∀ s : ByteArray, s.toList = s.data.toList := fun s => by simp [ByteArray.toList_eq]
  rw [e, e]
  apply bool_eq
  simp only [beq_iff_eq, decide_eq_true_eq]
theorem gO_texts {H : Hp} {x : AV} {n : Nat} {l : List ByteArray} (h : RAcc H x 1 (l.map txcell) n) : GivesO (textsL l) x H := by
  have hn : n = l.length := by have := h.1; simpa using this.symm
  subst hn
  rcases h.2 with ⟨h0, e⟩ | ⟨b, hb, rfl, hh⟩
  · have e0 : l = [] := List.length_eq_zero_iff.1 h0
    subst e0
    rcases e with rfl | rfl
    · exact gF_O (gF_lstT 11 H)
    · exact gF_O (gF_nil 11 H)
  · obtain ⟨fp, f1, f2, -⟩ := fpt_flat (d := 11) hh (sz := 1) (o := 0) (n := l.length) (fun c hc => by obtain ⟨s, -, rfl⟩ := List.mem_map.1 hc; rfl)
    refine ⟨⟨deep_txts hh rfl hb 10, ?_⟩, fp, f1, f2⟩
    show ((((H.h b).getD []).drop 0).take (l.length * 1)).all (clean H 11) = true
    rw [hh]
    refine List.all_eq_true.2 fun x hx => ?_
    have := List.mem_of_mem_drop (List.mem_of_mem_take hx)
    obtain ⟨z, -, rfl⟩ := List.mem_map.1 this; rfl
theorem ext_list (a : ByteArray) (l h : Nat) : (a.extract l h).data.toList = (a.data.toList.drop l).take (h - l) := by
  rw [ByteArray.data_extract, Array.toList_extract]
theorem ext_ba (s : ByteArray) (f t : Nat) : s.extract f t = ba ((s.data.toList.drop f).take (t - f)) := by
  rw [← ext_list, ba_of]
abbrev Pieces := List (List UInt8)
/-- How far the cutting has come: at place j, with the pieces o, from place f on. -/
def CutAt (c : UInt8) (l : List UInt8) (j f : Nat) (o : List (List UInt8)) : Prop :=
  (j ≤ l.length ∧ f ≤ j ∧ cutL c l = o ++ pre ((l.drop f).take (j - f)) (cutL c (l.drop j))) ∨ (j = l.length + 1 ∧ cutL c l = o)
theorem CutAt.zero (c : UInt8) (l : List UInt8) : CutAt c l 0 0 [] := .inl ⟨by omega, by omega, by simp [pre_nil (cutL_ne c l)]⟩
theorem CutAt.hit {c : UInt8} {l : List UInt8} {j f : Nat} {o : List (List UInt8)} (h : CutAt c l j f o) (hj : l[j]? = some c) : CutAt c l (j + 1) (j + 1) (o ++ [(l.drop f).take (j - f)]) := by
  have hlt : j < l.length := (List.getElem?_eq_some_iff.1 hj).1
  rcases h with ⟨h1, h2, h3⟩ | ⟨h1, -⟩
  · have hd : l.drop j = c :: l.drop (j + 1) := by
      rw [List.drop_eq_getElem_cons hlt]; congr 1; exact (List.getElem?_eq_some_iff.1 hj).2
    rw [hd, cut_hit rfl] at h3
    refine .inl ⟨by omega, by omega, ?_⟩
    rw [h3, Nat.sub_self, List.take_zero, pre_nil (cutL_ne _ _)]; simp
  · omega
theorem CutAt.miss {c b : UInt8} {l : List UInt8} {j f : Nat} {o : List (List UInt8)} (h : CutAt c l j f o) (hj : l[j]? = some b) (hb : ¬ b = c) : CutAt c l (j + 1) f o := by
  have hlt : j < l.length := (List.getElem?_eq_some_iff.1 hj).1
  rcases h with ⟨h1, h2, h3⟩ | ⟨h1, -⟩
  · have hd : l.drop j = b :: l.drop (j + 1) := by
      rw [List.drop_eq_getElem_cons hlt]; congr 1; exact (List.getElem?_eq_some_iff.1 hj).2
    rw [hd, cut_miss hb] at h3
    refine .inl ⟨by omega, by omega, ?_⟩
    have e : (l.drop f).take (j + 1 - f) = (l.drop f).take (j - f) ++ [b] := by
      rw [show j + 1 - f = (j - f) + 1 by omega, List.take_add_one]
      congr 1
      rw [List.getElem?_drop, show f + (j - f) = j by omega, hj]; rfl
    rw [h3, e]
  · omega
theorem CutAt.end_ {c : UInt8} {l : List UInt8} {j f : Nat} {o : List (List UInt8)} (h : CutAt c l j f o) (hj : j = l.length) : CutAt c l (j + 1) (j + 1) (o ++ [(l.drop f).take (j - f)]) := by
  rcases h with ⟨h1, h2, h3⟩ | ⟨h1, -⟩
  · refine .inr ⟨by omega, ?_⟩
    rw [h3, hj, List.drop_length]; simp [cutL, pre]
  · omega
theorem CutAt.fin {c : UInt8} {l : List UInt8} {j f : Nat} {o : List (List UInt8)} (h : CutAt c l j f o) (hj : l.length < j) : cutL c l = o := by
  rcases h with ⟨h1, -⟩ | ⟨-, h2⟩
  · omega
  · exact h2
theorem ok_sl1Cut : fnOk Tryz.prog cfg0 67 Tryz.f67 = true := by kernel_rfl
theorem pq_sl1Cut (a : ByteArray) (hs : a.size ≤ 1048576) (c : UInt8) : pure Tryz.prog cfg0 67 Tryz.f67 [.v (.string a), .v (.int .u8 (c.toNat : Nat))] = some (textsL ((cutL c a.data.toList).map ba), true) ∧ owned Tryz.prog cfg0 67 Tryz.f67 [.v (.string a), .v (.int .u8 (c.toNat : Nat))] = some (textsL ((cutL c a.data.toList).map ba)) := by
  refine both_wp (rs := [.tmp 4]) rfl rfl ?_
  have hp0 : ∀ b, cfg0.pol 67 b = 0 := fun b => rfl
  have hsz : a.size = a.data.toList.length := by rw [ByteArray.size]; simp
  repeat' (first | ((first | refine wSeqr ?_ | refine wIf ?_ | refine wReg ?_ | (refine wRet ?_; (try simp only [thenQ, blockQ]); refine ends_by ?_)); intro xx hx; have hc := trivial; (repeat' (simp only [hc, Nat.reduceBEq, go_sem, Nat.reduceAdd, Nat.reduceMul, Nat.reduceSub, Nat.reduceEqDiff, Nat.reduceLT, Nat.reduceLeDiff, Int.reduceEq, Int.reduceLT, Int.reduceLE, reduceIte, aresults, aresult, hp0] at hx; (try (rw [guardL_if] at hx; split at hx <;> rename_i hc)))); all_goals (subst hx; first | (refine ⟨_, rfl, fun ht => ?_, fun ht => ?_⟩ <;> (try simp only [bbs] at ht)) | (refine ⟨_, rfl, ?_⟩; (try simp only [tupOf])))) | refine wSkip ?_ | (refine wExit ?_; simp only [thenQ, blockQ, reduceIte, Nat.reduceEqDiff]) | refine wSeq ?_ | refine wBlock ?_)
  refine wLoop (fun k s => ∃ (j : Nat) (x : AV) (f : Nat) (o : Pieces), j + k = a.size + 1 ∧ s.1 0 = .v (.string a) ∧ s.1 1 = .v (.int .u8 (c.toNat : Nat)) ∧ s.1 5 = x ∧ s.1 6 = .v (.int .i64 (f : Nat)) ∧ s.1 7 = .v (.int .i64 (j : Nat)) ∧ (RAcc s.2 x 1 ((o.map ba).map txcell) o.length) ∧ (CutAt c a.data.toList j f o) ∧ (f ≤ j ∧ o.length ≤ j ∧ j ≤ a.size + 1)) (fun k s hI => ?_) (a.size + 1) _ ?_
  · obtain ⟨e, H⟩ := s
    obtain ⟨j, x, f, o, hj, h0, h1, h5, h6, h7, hr, hcut, hfj⟩ := hI
    simp only at h0 h1 h5 h6 h7 hr hcut hfj
    by_cases hlt : j ≤ a.size
    · have hltI : ((j : Nat) : Int) ≤ (a.size : Int) := by omega
      have w1 : IntKind.wrap .i64 (((j : Nat) : Int) + 1) = ((j + 1 : Nat) : Int) := wrap_succ (by omega)
      have hsl : (f ≤ j ∧ j ≤ a.size) = True := eq_true ⟨hfj.1, hlt⟩
      have hin : ((j : Nat) : Int) = (a.size : Int) ∨ ∃ b, a.data.toList[j]? = some b ∧ ¬ ((j : Nat) : Int) = (a.size : Int) := by
        by_cases he : j = a.size
        · exact .inl (by omega)
        · exact .inr ⟨a.data.toList[j]'(by omega), by simp, by omega⟩
      have hcuts : ((j : Nat) : Int) = (a.size : Int) ∨ (∃ b, a.data.toList[j]? = some b ∧ ¬ ((j : Nat) : Int) = (a.size : Int) ∧ b = c) → CutAt c a.data.toList (j + 1) (j + 1) (o ++ [(a.data.toList.drop f).take (j - f)]) := by
        rintro (he | ⟨b, hg, -, rfl⟩)
        · exact hcut.end_ (by omega)
        · exact hcut.hit hg
      rcases hin with he | ⟨b, hg, he⟩
      · have heT : (((j : Nat) : Int) = (a.size : Int)) = True := eq_true he
        repeat' ((fail_if_success (first | refine wAt 7 ?_)); first | ((first | refine wSeqr ?_ | refine wIf ?_ | refine wReg ?_ | (refine wRet ?_; (try simp only [thenQ, blockQ]); refine ends_by ?_)); intro xx hx; have hc := trivial; (repeat' (simp only [hc, Nat.reduceBEq, go_sem, Nat.reduceAdd, Nat.reduceMul, Nat.reduceSub, Nat.reduceEqDiff, Nat.reduceLT, Nat.reduceLeDiff, Int.reduceEq, Int.reduceLT, Int.reduceLE, reduceIte, aresults, aresult, hp0, h0, h1, h7, hltI, heT] at hx; (try (rw [guardL_if] at hx; split at hx <;> rename_i hc)))); all_goals (subst hx; first | (refine ⟨_, rfl, fun ht => ?_, fun ht => ?_⟩ <;> (try simp only [bbs] at ht)) | (refine ⟨_, rfl, ?_⟩; (try simp only [tupOf])))) | refine wSkip ?_ | (refine wExit ?_; simp only [thenQ, blockQ, reduceIte, Nat.reduceEqDiff]) | refine wSeq ?_ | refine wBlock ?_)
        all_goals try (exfalso; (try simp only [bbs] at *); first | omega | exact absurd trivial (by assumption))
        (first | refine wSeqr ?_ | refine wReg ?_); intro xx hx; have hc := trivial; (repeat' (simp only [hc, Nat.reduceBEq, go_sem, Nat.reduceAdd, Nat.reduceMul, Nat.reduceSub, Nat.reduceEqDiff, Nat.reduceLT, Nat.reduceLeDiff, Int.reduceEq, Int.reduceLT, Int.reduceLE, reduceIte, aresults, aresult, hp0, h0, h5, h6, h7, hsl, aslice_S u9] at hx; (try (rw [guardL_if] at hx; split at hx <;> rename_i hc)))); generalize hq : aappend Tryz.prog _ _ _ _ = q at hx
        obtain ⟨x', K2, rfl, hacc, hg2, hk2, ho2⟩ := app_rows hq el46 zero9 by9 int46 (sz := 1) rfl (by omega) hr (m := 1) rfl (afirst_one _ _ [txcell (a.extract f j)]) rfl (by omega) (by omega)
        clear hq
        have hc := trivial; (repeat' (simp only [hc, Nat.reduceBEq, go_sem, Nat.reduceAdd, Nat.reduceMul, Nat.reduceSub, Nat.reduceEqDiff, Nat.reduceLT, Nat.reduceLeDiff, Int.reduceEq, Int.reduceLT, Int.reduceLE, reduceIte, aresults, aresult, hp0] at hx; (try (rw [guardL_if] at hx; split at hx <;> rename_i hc)))); all_goals (subst hx; refine ⟨_, rfl, ?_⟩)
        repeat' (first | ((first | refine wSeqr ?_ | refine wIf ?_ | refine wReg ?_ | (refine wRet ?_; (try simp only [thenQ, blockQ]); refine ends_by ?_)); intro xx hx; have hc := trivial; (repeat' (simp only [hc, Nat.reduceBEq, go_sem, Nat.reduceAdd, Nat.reduceMul, Nat.reduceSub, Nat.reduceEqDiff, Nat.reduceLT, Nat.reduceLeDiff, Int.reduceEq, Int.reduceLT, Int.reduceLE, reduceIte, aresults, aresult, hp0, h7, w1] at hx; (try (rw [guardL_if] at hx; split at hx <;> rename_i hc)))); all_goals (subst hx; first | (refine ⟨_, rfl, fun ht => ?_, fun ht => ?_⟩ <;> (try simp only [bbs] at ht)) | (refine ⟨_, rfl, ?_⟩; (try simp only [tupOf])))) | refine wSkip ?_ | (refine wExit ?_; simp only [thenQ, blockQ, reduceIte, Nat.reduceEqDiff]) | refine wSeq ?_ | refine wBlock ?_)
        all_goals try (exfalso; (try simp only [bbs] at *); first | omega | exact absurd trivial (by assumption))
        refine ⟨_, Nat.sub_lt (by omega) Nat.one_pos, j + 1, x', j + 1, o ++ [(a.data.toList.drop f).take (j - f)], by omega, by simp only [upd_eq, Nat.reduceEqDiff, if_false, if_true, h0, h1, h5, h6, h7], by simp only [upd_eq, Nat.reduceEqDiff, if_false, if_true, h0, h1, h5, h6, h7], by simp only [upd_eq, Nat.reduceEqDiff, if_false, if_true, h0, h1, h5, h6, h7], by simp only [upd_eq, Nat.reduceEqDiff, if_false, if_true, h0, h1, h5, h6, h7], by simp only [upd_eq, Nat.reduceEqDiff, if_false, if_true, h0, h1, h5, h6, h7], ?_⟩
        refine ⟨?_, hcuts (.inl he), by simp; omega⟩
        rw [List.map_append, List.map_append, List.length_append, List.map_singleton, List.map_singleton, ← ext_ba]
        exact hacc
      · by_cases hbc : b = c
        · have hbI : ((b.toNat : Nat) : Int) = (c.toNat : Int) := by rw [hbc]
          have hbT : (((b.toNat : Nat) : Int) = (c.toNat : Int)) = True := eq_true hbI
          repeat' ((fail_if_success (first | refine wAt 7 ?_)); first | ((first | refine wSeqr ?_ | refine wIf ?_ | refine wReg ?_ | (refine wRet ?_; (try simp only [thenQ, blockQ]); refine ends_by ?_)); intro xx hx; have hc := trivial; (repeat' (simp only [hc, Nat.reduceBEq, go_sem, Nat.reduceAdd, Nat.reduceMul, Nat.reduceSub, Nat.reduceEqDiff, Nat.reduceLT, Nat.reduceLeDiff, Int.reduceEq, Int.reduceLT, Int.reduceLE, reduceIte, aresults, aresult, hp0, h0, h1, h7, hltI, he, hg, hbT] at hx; (try (rw [guardL_if] at hx; split at hx <;> rename_i hc)))); all_goals (subst hx; first | (refine ⟨_, rfl, fun ht => ?_, fun ht => ?_⟩ <;> (try simp only [bbs] at ht)) | (refine ⟨_, rfl, ?_⟩; (try simp only [tupOf])))) | refine wSkip ?_ | (refine wExit ?_; simp only [thenQ, blockQ, reduceIte, Nat.reduceEqDiff]) | refine wSeq ?_ | refine wBlock ?_)
          all_goals try (exfalso; (try simp only [bbs] at *); first | omega | exact absurd trivial (by assumption))
          (first | refine wSeqr ?_ | refine wReg ?_); intro xx hx; have hc := trivial; (repeat' (simp only [hc, Nat.reduceBEq, go_sem, Nat.reduceAdd, Nat.reduceMul, Nat.reduceSub, Nat.reduceEqDiff, Nat.reduceLT, Nat.reduceLeDiff, Int.reduceEq, Int.reduceLT, Int.reduceLE, reduceIte, aresults, aresult, hp0, h0, h5, h6, h7, hsl, aslice_S u9] at hx; (try (rw [guardL_if] at hx; split at hx <;> rename_i hc)))); generalize hq : aappend Tryz.prog _ _ _ _ = q at hx
          obtain ⟨x', K2, rfl, hacc, hg2, hk2, ho2⟩ := app_rows hq el46 zero9 by9 int46 (sz := 1) rfl (by omega) hr (m := 1) rfl (afirst_one _ _ [txcell (a.extract f j)]) rfl (by omega) (by omega)
          clear hq
          have hc := trivial; (repeat' (simp only [hc, Nat.reduceBEq, go_sem, Nat.reduceAdd, Nat.reduceMul, Nat.reduceSub, Nat.reduceEqDiff, Nat.reduceLT, Nat.reduceLeDiff, Int.reduceEq, Int.reduceLT, Int.reduceLE, reduceIte, aresults, aresult, hp0] at hx; (try (rw [guardL_if] at hx; split at hx <;> rename_i hc)))); all_goals (subst hx; refine ⟨_, rfl, ?_⟩)
          repeat' (first | ((first | refine wSeqr ?_ | refine wIf ?_ | refine wReg ?_ | (refine wRet ?_; (try simp only [thenQ, blockQ]); refine ends_by ?_)); intro xx hx; have hc := trivial; (repeat' (simp only [hc, Nat.reduceBEq, go_sem, Nat.reduceAdd, Nat.reduceMul, Nat.reduceSub, Nat.reduceEqDiff, Nat.reduceLT, Nat.reduceLeDiff, Int.reduceEq, Int.reduceLT, Int.reduceLE, reduceIte, aresults, aresult, hp0, h7, w1] at hx; (try (rw [guardL_if] at hx; split at hx <;> rename_i hc)))); all_goals (subst hx; first | (refine ⟨_, rfl, fun ht => ?_, fun ht => ?_⟩ <;> (try simp only [bbs] at ht)) | (refine ⟨_, rfl, ?_⟩; (try simp only [tupOf])))) | refine wSkip ?_ | (refine wExit ?_; simp only [thenQ, blockQ, reduceIte, Nat.reduceEqDiff]) | refine wSeq ?_ | refine wBlock ?_)
          all_goals try (exfalso; (try simp only [bbs] at *); first | omega | exact absurd trivial (by assumption))
          refine ⟨_, Nat.sub_lt (by omega) Nat.one_pos, j + 1, x', j + 1, o ++ [(a.data.toList.drop f).take (j - f)], by omega, by simp only [upd_eq, Nat.reduceEqDiff, if_false, if_true, h0, h1, h5, h6, h7], by simp only [upd_eq, Nat.reduceEqDiff, if_false, if_true, h0, h1, h5, h6, h7], by simp only [upd_eq, Nat.reduceEqDiff, if_false, if_true, h0, h1, h5, h6, h7], by simp only [upd_eq, Nat.reduceEqDiff, if_false, if_true, h0, h1, h5, h6, h7], by simp only [upd_eq, Nat.reduceEqDiff, if_false, if_true, h0, h1, h5, h6, h7], ?_⟩
          refine ⟨?_, hcuts (.inr ⟨b, hg, he, hbc⟩), by simp; omega⟩
          rw [List.map_append, List.map_append, List.length_append, List.map_singleton, List.map_singleton, ← ext_ba]
          exact hacc
        · have hbI : ¬ ((b.toNat : Nat) : Int) = (c.toNat : Int) := fun h => hbc (UInt8.toNat_inj.1 (by omega))
          repeat' (first | ((first | refine wSeqr ?_ | refine wIf ?_ | refine wReg ?_ | (refine wRet ?_; (try simp only [thenQ, blockQ]); refine ends_by ?_)); intro xx hx; have hc := trivial; (repeat' (simp only [hc, Nat.reduceBEq, go_sem, Nat.reduceAdd, Nat.reduceMul, Nat.reduceSub, Nat.reduceEqDiff, Nat.reduceLT, Nat.reduceLeDiff, Int.reduceEq, Int.reduceLT, Int.reduceLE, reduceIte, aresults, aresult, hp0, h0, h1, h7, hltI, he, hg, hbI, w1] at hx; (try (rw [guardL_if] at hx; split at hx <;> rename_i hc)))); all_goals (subst hx; first | (refine ⟨_, rfl, fun ht => ?_, fun ht => ?_⟩ <;> (try simp only [bbs] at ht)) | (refine ⟨_, rfl, ?_⟩; (try simp only [tupOf])))) | refine wSkip ?_ | (refine wExit ?_; simp only [thenQ, blockQ, reduceIte, Nat.reduceEqDiff]) | refine wSeq ?_ | refine wBlock ?_)
          all_goals try (exfalso; (try simp only [bbs] at *); first | omega | exact absurd trivial (by assumption))
          refine ⟨_, Nat.sub_lt (by omega) Nat.one_pos, j + 1, x, f, o, by omega, by simp only [upd_eq, Nat.reduceEqDiff, if_false, if_true, h0, h1, h5, h6, h7], by simp only [upd_eq, Nat.reduceEqDiff, if_false, if_true, h0, h1, h5, h6, h7], by simp only [upd_eq, Nat.reduceEqDiff, if_false, if_true, h0, h1, h5, h6, h7], by simp only [upd_eq, Nat.reduceEqDiff, if_false, if_true, h0, h1, h5, h6, h7], by simp only [upd_eq, Nat.reduceEqDiff, if_false, if_true, h0, h1, h5, h6, h7], ?_⟩
          exact ⟨hr, hcut.miss hg hbc, by omega⟩
    · have hltI : ¬ ((j : Nat) : Int) ≤ (a.size : Int) := by omega
      repeat' (first | ((first | refine wSeqr ?_ | refine wIf ?_ | refine wReg ?_ | (refine wRet ?_; (try simp only [thenQ, blockQ]); refine ends_by ?_)); intro xx hx; have hc := trivial; (repeat' (simp only [hc, Nat.reduceBEq, go_sem, Nat.reduceAdd, Nat.reduceMul, Nat.reduceSub, Nat.reduceEqDiff, Nat.reduceLT, Nat.reduceLeDiff, Int.reduceEq, Int.reduceLT, Int.reduceLE, reduceIte, aresults, aresult, hp0, h0, h5, h7, hltI] at hx; (try (rw [guardL_if] at hx; split at hx <;> rename_i hc)))); all_goals (subst hx; first | (refine ⟨_, rfl, fun ht => ?_, fun ht => ?_⟩ <;> (try simp only [bbs] at ht)) | (refine ⟨_, rfl, ?_⟩; (try simp only [tupOf])))) | refine wSkip ?_ | (refine wExit ?_; simp only [thenQ, blockQ, reduceIte, Nat.reduceEqDiff]) | refine wSeq ?_ | refine wBlock ?_)
      all_goals try (exfalso; (try simp only [bbs] at *); first | omega | exact absurd trivial (by assumption))
      rw [hcut.fin (by omega)]
      exact gO_texts hr
  · exact ⟨0, .lst true [], 0, [], by omega, rfl, rfl, rfl, rfl, rfl, RAcc.lst, CutAt.zero _ _, by simp⟩
theorem c_sl1Cut (a : ByteArray) (hs : a.size ≤ 1048576) (c : UInt8) : ∀ H, call Tryz.prog cfg0 0 67 [.v (.string a), .v (.int .u8 (c.toNat : Nat))] H = some (textsL ((cutL c a.data.toList).map ba), H) :=
  call_fz Tryz.func67 rfl ok_sl1Cut rfl (by simp only [fz_cons, fz_nil, go_sem, and_self]) (pq_sl1Cut a hs c).1
theorem fil_take {l : List ByteArray} {j : Nat} {x : ByteArray} (h : l[j]? = some x) : (l.take (j + 1)).filter neB = (l.take j).filter neB ++ if x.data.toList = [] then [] else [x] := by
  rw [List.take_add_one, h, List.filter_append]
  congr 1
  by_cases hx : x.data.toList = [] <;> simp [neB, hx]
theorem ok_sl14Words : fnOk Tryz.prog cfg0 30 Tryz.f30 = true := by kernel_rfl
theorem pq_sl14Words (a : ByteArray) (hs : a.size ≤ 1048576) : pure Tryz.prog cfg0 30 Tryz.f30 [.v (.string a)] = some (textsL ((wordsL a.data.toList).map ba), true) ∧ owned Tryz.prog cfg0 30 Tryz.f30 [.v (.string a)] = some (textsL ((wordsL a.data.toList).map ba)) := by
  refine both_wp (rs := [.tmp 2]) rfl rfl ?_
  have hp0 : ∀ b, cfg0.pol 30 b = 0 := fun b => rfl
  have hsz : a.size = a.data.toList.length := by rw [ByteArray.size]; simp
  have hcs := cut_size 32 a.data.toList
  have hc := c_sl1Cut a hs 32
  rw [← wordsL_ba]
  have hP : ((cutL 32 a.data.toList).map ba).length ≤ a.size + 1 := by rw [List.length_map]; omega
  generalize (cutL 32 a.data.toList).map ba = P at hc hP
  have hc' : ∀ H, call Tryz.prog cfg0 0 67 [.v (.string a), .v (.int .u8 32)] H = some (textsL P, H) := hc
  repeat' (first | ((first | refine wSeqr ?_ | refine wIf ?_ | refine wReg ?_ | (refine wRet ?_; (try simp only [thenQ, blockQ]); refine ends_by ?_)); intro xx hx; have hc := trivial; (repeat' (simp only [hc, Nat.reduceBEq, go_sem, Nat.reduceAdd, Nat.reduceMul, Nat.reduceSub, Nat.reduceEqDiff, Nat.reduceLT, Nat.reduceLeDiff, Int.reduceEq, Int.reduceLT, Int.reduceLE, reduceIte, aresults, aresult, hp0, hc'] at hx; (try (rw [guardL_if] at hx; split at hx <;> rename_i hc)))); all_goals (subst hx; first | (refine ⟨_, rfl, fun ht => ?_, fun ht => ?_⟩ <;> (try simp only [bbs] at ht)) | (refine ⟨_, rfl, ?_⟩; (try simp only [tupOf])))) | refine wSkip ?_ | (refine wExit ?_; simp only [thenQ, blockQ, reduceIte, Nat.reduceEqDiff]) | refine wSeq ?_ | refine wBlock ?_)
  refine wLoop (fun k s => ∃ (j : Nat) (x : AV), j + k = P.length ∧ s.1 4 = textsL P ∧ s.1 3 = x ∧ s.1 5 = .v (.int .i64 (j : Nat)) ∧ (RAcc s.2 x 1 (((P.take j).filter neB).map txcell) ((P.take j).filter neB).length)) (fun k s hI => ?_) (P.length) _ ?_
  · obtain ⟨e, H⟩ := s
    obtain ⟨j, x, hj, h4, h3, h5, hr⟩ := hI
    simp only at h4 h3 h5 hr
    have hfl : ((P.take j).filter neB).length ≤ P.length := Nat.le_trans (List.length_filter_le _ _) (by rw [List.length_take]; omega)
    by_cases hlt : j < P.length
    · obtain ⟨y, hg, hd, hm⟩ := at_drop hlt
      have hg' := get_tx hg
      have hft := fil_take hg
      have w1 : IntKind.wrap .i64 (((j : Nat) : Int) + 1) = ((j + 1 : Nat) : Int) := wrap_succ (by omega)
      by_cases hy : y.data.toList = []
      · rw [if_pos hy, List.append_nil] at hft
        repeat' (first | ((first | refine wSeqr ?_ | refine wIf ?_ | refine wReg ?_ | (refine wRet ?_; (try simp only [thenQ, blockQ]); refine ends_by ?_)); intro xx hx; have hc := trivial; (repeat' (simp only [hc, Nat.reduceBEq, go_sem, Nat.reduceAdd, Nat.reduceMul, Nat.reduceSub, Nat.reduceEqDiff, Nat.reduceLT, Nat.reduceLeDiff, Int.reduceEq, Int.reduceLT, Int.reduceLE, reduceIte, aresults, aresult, hp0, h4, h5, textsL, List.length_map, hg', str_eqW, hy, w1] at hx; (try (rw [guardL_if] at hx; split at hx <;> rename_i hc)))); all_goals (subst hx; first | (refine ⟨_, rfl, fun ht => ?_, fun ht => ?_⟩ <;> (try simp only [bbs] at ht)) | (refine ⟨_, rfl, ?_⟩; (try simp only [tupOf])))) | refine wSkip ?_ | (refine wExit ?_; simp only [thenQ, blockQ, reduceIte, Nat.reduceEqDiff]) | refine wSeq ?_ | refine wBlock ?_)
        all_goals try (exfalso; (try simp only [bbs] at *); first | omega | exact absurd trivial (by assumption))
        refine ⟨_, Nat.sub_lt (by omega) Nat.one_pos, j + 1, x, by omega, by simp only [upd_eq, Nat.reduceEqDiff, if_false, if_true, h4, h3, h5], by simp only [upd_eq, Nat.reduceEqDiff, if_false, if_true, h4, h3, h5], by simp only [upd_eq, Nat.reduceEqDiff, if_false, if_true, h4, h3, h5], ?_⟩
        rw [hft]; exact hr
      · rw [if_neg hy] at hft
        repeat' ((fail_if_success (first | refine wAt 7 ?_)); first | ((first | refine wSeqr ?_ | refine wIf ?_ | refine wReg ?_ | (refine wRet ?_; (try simp only [thenQ, blockQ]); refine ends_by ?_)); intro xx hx; have hc := trivial; (repeat' (simp only [hc, Nat.reduceBEq, go_sem, Nat.reduceAdd, Nat.reduceMul, Nat.reduceSub, Nat.reduceEqDiff, Nat.reduceLT, Nat.reduceLeDiff, Int.reduceEq, Int.reduceLT, Int.reduceLE, reduceIte, aresults, aresult, hp0, h4, h5, textsL, List.length_map, hg', str_eqW, hy, w1] at hx; (try (rw [guardL_if] at hx; split at hx <;> rename_i hc)))); all_goals (subst hx; first | (refine ⟨_, rfl, fun ht => ?_, fun ht => ?_⟩ <;> (try simp only [bbs] at ht)) | (refine ⟨_, rfl, ?_⟩; (try simp only [tupOf])))) | refine wSkip ?_ | (refine wExit ?_; simp only [thenQ, blockQ, reduceIte, Nat.reduceEqDiff]) | refine wSeq ?_ | refine wBlock ?_)
        all_goals try (exfalso; (try simp only [bbs] at *); first | omega | exact absurd trivial (by assumption))
        (first | refine wSeqr ?_ | refine wReg ?_); intro xx hx; have hc := trivial; (repeat' (simp only [hc, Nat.reduceBEq, go_sem, Nat.reduceAdd, Nat.reduceMul, Nat.reduceSub, Nat.reduceEqDiff, Nat.reduceLT, Nat.reduceLeDiff, Int.reduceEq, Int.reduceLT, Int.reduceLE, reduceIte, aresults, aresult, hp0, h3, h4, h5, textsL, hg'] at hx; (try (rw [guardL_if] at hx; split at hx <;> rename_i hc)))); generalize hq : aappend Tryz.prog _ _ _ _ = q at hx
        obtain ⟨x', K2, rfl, hacc, hg2, hk2, ho2⟩ := app_rows hq el46 zero9 by9 int46 (sz := 1) rfl (by omega) hr (m := 1) rfl (afirst_one _ _ [txcell y]) rfl (by omega) (by omega)
        clear hq
        have hc := trivial; (repeat' (simp only [hc, Nat.reduceBEq, go_sem, Nat.reduceAdd, Nat.reduceMul, Nat.reduceSub, Nat.reduceEqDiff, Nat.reduceLT, Nat.reduceLeDiff, Int.reduceEq, Int.reduceLT, Int.reduceLE, reduceIte, aresults, aresult, hp0] at hx; (try (rw [guardL_if] at hx; split at hx <;> rename_i hc)))); all_goals (subst hx; refine ⟨_, rfl, ?_⟩)
        repeat' (first | ((first | refine wSeqr ?_ | refine wIf ?_ | refine wReg ?_ | (refine wRet ?_; (try simp only [thenQ, blockQ]); refine ends_by ?_)); intro xx hx; have hc := trivial; (repeat' (simp only [hc, Nat.reduceBEq, go_sem, Nat.reduceAdd, Nat.reduceMul, Nat.reduceSub, Nat.reduceEqDiff, Nat.reduceLT, Nat.reduceLeDiff, Int.reduceEq, Int.reduceLT, Int.reduceLE, reduceIte, aresults, aresult, hp0, h5, w1] at hx; (try (rw [guardL_if] at hx; split at hx <;> rename_i hc)))); all_goals (subst hx; first | (refine ⟨_, rfl, fun ht => ?_, fun ht => ?_⟩ <;> (try simp only [bbs] at ht)) | (refine ⟨_, rfl, ?_⟩; (try simp only [tupOf])))) | refine wSkip ?_ | (refine wExit ?_; simp only [thenQ, blockQ, reduceIte, Nat.reduceEqDiff]) | refine wSeq ?_ | refine wBlock ?_)
        all_goals try (exfalso; (try simp only [bbs] at *); first | omega | exact absurd trivial (by assumption))
        refine ⟨_, Nat.sub_lt (by omega) Nat.one_pos, j + 1, x', by omega, by simp only [upd_eq, Nat.reduceEqDiff, if_false, if_true, h4, h3, h5], by simp only [upd_eq, Nat.reduceEqDiff, if_false, if_true, h4, h3, h5], by simp only [upd_eq, Nat.reduceEqDiff, if_false, if_true, h4, h3, h5], ?_⟩
        rw [hft, List.map_append, List.length_append]
        exact hacc
    · have hj' : j = P.length := by omega
      repeat' (first | ((first | refine wSeqr ?_ | refine wIf ?_ | refine wReg ?_ | (refine wRet ?_; (try simp only [thenQ, blockQ]); refine ends_by ?_)); intro xx hx; have hc := trivial; (repeat' (simp only [hc, Nat.reduceBEq, go_sem, Nat.reduceAdd, Nat.reduceMul, Nat.reduceSub, Nat.reduceEqDiff, Nat.reduceLT, Nat.reduceLeDiff, Int.reduceEq, Int.reduceLT, Int.reduceLE, reduceIte, aresults, aresult, hp0, h3, h4, h5, textsL, List.length_map] at hx; (try (rw [guardL_if] at hx; split at hx <;> rename_i hc)))); all_goals (subst hx; first | (refine ⟨_, rfl, fun ht => ?_, fun ht => ?_⟩ <;> (try simp only [bbs] at ht)) | (refine ⟨_, rfl, ?_⟩; (try simp only [tupOf])))) | refine wSkip ?_ | (refine wExit ?_; simp only [thenQ, blockQ, reduceIte, Nat.reduceEqDiff]) | refine wSeq ?_ | refine wBlock ?_)
      all_goals try (exfalso; (try simp only [bbs] at *); first | omega | exact absurd trivial (by assumption))
      rw [hj', List.take_length] at hr
      exact gO_texts hr
  · refine ⟨0, .lst true [], by omega, rfl, rfl, rfl, RAcc.lst⟩
theorem c_sl14Words (a : ByteArray) (hs : a.size ≤ 1048576) : ∀ H, call Tryz.prog cfg0 0 30 [.v (.string a)] H = some (textsL ((wordsL a.data.toList).map ba), H) :=
  call_fz Tryz.func30 rfl ok_sl14Words rfl (by simp only [fz_cons, fz_nil, go_sem, and_self]) (pq_sl14Words a hs).1
def wC (l : List UInt8) : Int := if 3000 < l.length then 2 else 0
def wW (l : List UInt8) : List ByteArray := if 3000 < l.length then [] else (wordsL l).map ba
theorem fz_tr (c : Int) (l : List ByteArray) : Fz depthD (.agg [.v (.int .i64 c), textsL l]) := Fz.agg (n := 11) fun x hx => by
  simp only [List.mem_cons, List.not_mem_nil, or_false] at hx
  rcases hx with rfl | rfl
  · exact Fz.int _ _ _
  · exact textsL_fz 9 l
theorem ok_sWordsOf : fnOk Tryz.prog cfg0 26 Tryz.f26 = true := by kernel_rfl
theorem p_sWordsOf (a : ByteArray) (hs : a.size ≤ 1048576) : ∃ cl, pure Tryz.prog cfg0 26 Tryz.f26 [.v (.string a)] = some (.agg [.v (.int .i64 (wC a.data.toList)), textsL (wW a.data.toList)], cl) := by
  have key : ∃ v cl, v = (.agg [.v (.int .i64 (wC a.data.toList)), textsL (wW a.data.toList)] : AV) ∧ pure Tryz.prog cfg0 26 Tryz.f26 [.v (.string a)] = some (v, cl) := by
    refine pure_ex (rs := [.cell 2 48]) rfl rfl ?_
    have hp0 : ∀ b, cfg0.pol 26 b = 0 := fun b => rfl
    have hsz : a.size = a.data.toList.length := by rw [ByteArray.size]; simp
    by_cases hbig : 3000 < a.data.toList.length
    · have hbI : 3000 < (a.size : Int) := by omega
      rw [show wC a.data.toList = 2 from if_pos hbig, show wW a.data.toList = [] from if_pos hbig]
      repeat' (first | ((first | refine wSeqr ?_ | refine wIf ?_ | refine wReg ?_ | (refine wRet ?_; (try simp only [thenQ, blockQ]); refine ends_by ?_)); intro xx hx; have hc := trivial; (repeat' (simp only [hc, Nat.reduceBEq, go_sem, Nat.reduceAdd, Nat.reduceMul, Nat.reduceSub, Nat.reduceEqDiff, Nat.reduceLT, Nat.reduceLeDiff, Int.reduceEq, Int.reduceLT, Int.reduceLE, reduceIte, aresults, aresult, hp0, hbI] at hx; (try (rw [guardL_if] at hx; split at hx <;> rename_i hc)))); all_goals (subst hx; first | (refine ⟨_, rfl, fun ht => ?_, fun ht => ?_⟩ <;> (try simp only [bbs] at ht)) | (refine ⟨_, rfl, ?_⟩; (try simp only [tupOf])))) | refine wSkip ?_ | (refine wExit ?_; simp only [thenQ, blockQ, reduceIte, Nat.reduceEqDiff]) | refine wSeq ?_ | refine wBlock ?_)
      all_goals try (exfalso; (try simp only [bbs] at *); first | omega | exact absurd trivial (by assumption))
      all_goals exact dirty rfl
    · have hbI : ¬ 3000 < (a.size : Int) := by omega
      have hw := c_sl14Words a hs
      rw [show wC a.data.toList = 0 from if_neg hbig, show wW a.data.toList = (wordsL a.data.toList).map ba from if_neg hbig]
      repeat' (first | ((first | refine wSeqr ?_ | refine wIf ?_ | refine wReg ?_ | (refine wRet ?_; (try simp only [thenQ, blockQ]); refine ends_by ?_)); intro xx hx; have hc := trivial; (repeat' (simp only [hc, Nat.reduceBEq, go_sem, Nat.reduceAdd, Nat.reduceMul, Nat.reduceSub, Nat.reduceEqDiff, Nat.reduceLT, Nat.reduceLeDiff, Int.reduceEq, Int.reduceLT, Int.reduceLE, reduceIte, aresults, aresult, hp0, hbI, hw] at hx; (try (rw [guardL_if] at hx; split at hx <;> rename_i hc)))); all_goals (subst hx; first | (refine ⟨_, rfl, fun ht => ?_, fun ht => ?_⟩ <;> (try simp only [bbs] at ht)) | (refine ⟨_, rfl, ?_⟩; (try simp only [tupOf])))) | refine wSkip ?_ | (refine wExit ?_; simp only [thenQ, blockQ, reduceIte, Nat.reduceEqDiff]) | refine wSeq ?_ | refine wBlock ?_)
      all_goals try (exfalso; (try simp only [bbs] at *); first | omega | exact absurd trivial (by assumption))
      all_goals exact dirty (fz_deep (fz_tr _ _) _)
  obtain ⟨v, cl, rfl, hp⟩ := key
  exact ⟨cl, hp⟩
theorem c_sWordsOf (a : ByteArray) (hs : a.size ≤ 1048576) : ∀ H, call Tryz.prog cfg0 0 26 [.v (.string a)] H = some (.agg [.v (.int .i64 (wC a.data.toList)), textsL (wW a.data.toList)], H) := fun H => by
  obtain ⟨cl, hp⟩ := p_sWordsOf a hs
  exact call_fz Tryz.func26 rfl ok_sWordsOf rfl (by simp only [fz_cons, fz_nil, go_sem, and_self]) hp H

end
end Go.Proofs.YtakbbccdnkigpaaGreatDoor
namespace Go.Proofs.YtakbbccdnkigpaaGreatDoor
open Go Go.RowKit Go.Proofs.YtakbbccdnkigpaaGreatDoor.Eng
set_option linter.unusedSimpArgs false
set_option linter.unusedVariables false
set_option maxRecDepth 100000
set_option maxHeartbeats 1000000
noncomputable section
theorem c_SplitO (s : ByteArray) (hs : s.size ≤ 1048576) : ∀ H, call Tryz.prog cfg0 1 49 [.v (.string s), .v (.string ⟨#[32]⟩)] H = some (.sl H.g 1 0 (cutL 32 s.data.toList).length, H.new (((cutL 32 s.data.toList).map ba).map txcell)) := fun H => by
  rw [call_primo Tryz.prog cfg0 Tryz.func49 (g := splitG) rfl (by kernel_rfl) rfl rfl]
  rw [show [AV.v (.string s), AV.v (.string ⟨#[32]⟩)].mapM (deep H depthD) = some [.v (.string s), .v (.string ⟨#[32]⟩)] from rfl]
  simp only [Option.bind_some, splitG]
  rw [if_pos ⟨by omega, rfl⟩]
  simp only [Option.bind_some]
  have e : Lib.splitB ⟨#[32]⟩ 0 (Lib.countB s ⟨#[32]⟩) s = (cutL 32 s.data.toList).map ba := splitB_cut s 32
  rw [e, show depthD = 10 + 2 from rfl, mat_texts 10 _ (by simpa using cutL_ne 32 s.data.toList)]
  simp only [List.length_map]; rfl
theorem slTO (H : Hp) (e : Env) (b o n : Nat) (lo : Option Operand) (hi : Operand) : aslice Tryz.prog H e 46 (.sl b 1 o n) lo (some hi) none = sliceO (H.h b) b 1 o (bound e 0 lo) (natOf (opd e hi)) := aslice_O u46 sz9 (by omega) H e b o n lo hi
theorem slTOF (H : Hp) (e : Env) (b o n : Nat) (lo : Option Operand) : aslice Tryz.prog H e 46 (.sl b 1 o n) lo none none = sliceO (H.h b) b 1 o (bound e 0 lo) (some n) := aslice_OF u46 sz9 (by omega) H e b o n lo
theorem ok_iW1 : fnOk Tryz.prog cfg0 51 Tryz.f51 = true := by kernel_rfl
theorem p_iW1 (s : ByteArray) : pure Tryz.prog cfg0 51 Tryz.f51 [.v (.string s)] = some (.v (.bool (decide (s.data.toList = []))), true) := by
  refine pure_wp (rs := [.tmp 2]) rfl rfl ?_
  have hp0 : ∀ b, cfg0.pol 51 b = 0 := fun b => rfl
  repeat' (first | ((first | refine wSeqr ?_ | refine wIf ?_ | refine wReg ?_ | (refine wRet ?_; (try simp only [thenQ, blockQ]); refine ends_by ?_)); intro xx hx; have hc := trivial; (repeat' (simp only [hc, Nat.reduceBEq, go_sem, Nat.reduceAdd, Nat.reduceMul, Nat.reduceSub, Nat.reduceEqDiff, Nat.reduceLT, Nat.reduceLeDiff, Int.reduceEq, Int.reduceLT, Int.reduceLE, reduceIte, aresults, aresult, hp0, str_eqW] at hx; (try (rw [guardL_if] at hx; split at hx <;> rename_i hc)))); all_goals (subst hx; first | (refine ⟨_, rfl, fun ht => ?_, fun ht => ?_⟩ <;> (try simp only [bbs] at ht)) | (refine ⟨_, rfl, ?_⟩; (try simp only [tupOf])))) | refine wSkip ?_ | (refine wExit ?_; simp only [thenQ, blockQ, reduceIte, Nat.reduceEqDiff]) | refine wSeq ?_ | refine wBlock ?_)
  exact gives_boolv rfl
theorem c_iW1 (s : ByteArray) : ∀ H, call Tryz.prog cfg0 0 51 [.v (.string s)] H = some (.v (.bool (decide (s.data.toList = []))), H) :=
  call_fz Tryz.func51 rfl ok_iW1 rfl (by simp only [fz_cons, fz_nil, go_sem, and_self]) (p_iW1 s)

/-- The first text that is empty. -/
def idxE : List ByteArray → Int
  | [] => -1
  | s :: r => if s.data.toList = [] then 0 else if idxE r = -1 then -1 else idxE r + 1
theorem idxE_none {l : List ByteArray} (h : ∀ s ∈ l, neB s = true) : idxE l = -1 := by
  induction l with
  | nil => rfl
  | cons s r ih =>
    have h1 := h s (by simp)
    simp only [neB, decide_eq_true_eq] at h1
    simp only [idxE, if_neg h1, ih fun x hx => h x (by simp [hx]), if_true]
theorem idxE_at {l : List ByteArray} {j : Nat} {s : ByteArray} (h : ∀ s ∈ l.take j, neB s = true) (hg : l[j]? = some s) (hs : s.data.toList = []) : idxE l = j := by
  induction l generalizing j with
  | nil => simp at hg
  | cons y r ih =>
    cases j with
    | zero => simp only [List.getElem?_cons_zero, Option.some.injEq] at hg; subst hg; simp [idxE, hs]
    | succ j =>
      simp only [List.take_succ_cons, List.mem_cons, forall_eq_or_imp] at h
      have h1 := h.1
      simp only [neB, decide_eq_true_eq] at h1
      have := ih h.2 (by simpa using hg)
      simp only [idxE, if_neg h1, this]
      rw [if_neg (by omega)]; omega
theorem take_ne {l : List ByteArray} {j : Nat} {s : ByteArray} (h : ∀ s ∈ l.take j, neB s = true) (hg : l[j]? = some s) (hs : ¬ s.data.toList = []) : ∀ s ∈ l.take (j + 1), neB s = true := fun x hx => by
  rw [List.take_add_one, hg] at hx
  rcases List.mem_append.1 hx with hx | hx
  · exact h x hx
  · simp at hx; subst hx; simpa [neB] using hs
theorem ok_iIdx : fnOk Tryz.prog cfg0 85 Tryz.f85 = true := by kernel_rfl
theorem p_iIdx (l : List ByteArray) (hl : l.length ≤ 4000000) (g : Nat) (hg : ∀ s ∈ l, ∀ H, call Tryz.prog cfg0 0 g [.v (.string s)] H = some (.v (.bool (decide (s.data.toList = []))), H)) : pure Tryz.prog cfg0 85 Tryz.f85 [textsL l, .fn g []] = some (.v (.int .i64 (idxE l)), true) := by
  refine pure_wp (rs := [.tmp 4]) rfl rfl ?_
  have hp0 : ∀ b, cfg0.pol 85 b = 0 := fun b => rfl
  repeat' (first | ((first | refine wSeqr ?_ | refine wIf ?_ | refine wReg ?_ | (refine wRet ?_; (try simp only [thenQ, blockQ]); refine ends_by ?_)); intro xx hx; have hc := trivial; (repeat' (simp only [hc, Nat.reduceBEq, go_sem, Nat.reduceAdd, Nat.reduceMul, Nat.reduceSub, Nat.reduceEqDiff, Nat.reduceLT, Nat.reduceLeDiff, Int.reduceEq, Int.reduceLT, Int.reduceLE, reduceIte, aresults, aresult, hp0, textsL, List.length_map] at hx; (try (rw [guardL_if] at hx; split at hx <;> rename_i hc)))); all_goals (subst hx; first | (refine ⟨_, rfl, fun ht => ?_, fun ht => ?_⟩ <;> (try simp only [bbs] at ht)) | (refine ⟨_, rfl, ?_⟩; (try simp only [tupOf])))) | refine wSkip ?_ | (refine wExit ?_; simp only [thenQ, blockQ, reduceIte, Nat.reduceEqDiff]) | refine wSeq ?_ | refine wBlock ?_)
  refine wLoop (fun k s => ∃ (j : Nat), j + k = l.length ∧ s.1 0 = .lst false (l.map fun s => [.v (.string s)]) ∧ s.1 1 = .fn g [] ∧ s.1 7 = .v (.int .i64 (l.length : Nat)) ∧ s.1 8 = .v (.int .i64 (j : Nat)) ∧ (∀ s ∈ l.take j, neB s = true)) (fun k s hI => ?_) (l.length) _ ?_
  · obtain ⟨e, H⟩ := s
    obtain ⟨j, hj, h0, h1, h7, h8, htk⟩ := hI
    simp only at h0 h1 h7 h8 htk
    by_cases hlt : j < l.length
    · obtain ⟨y, hgy, hd, hm⟩ := at_drop hlt
      have hg' := get_tx hgy
      have w1 : IntKind.wrap .i64 (((j : Nat) : Int) + 1) = ((j + 1 : Nat) : Int) := wrap_succ (by omega)
      have hcg := hg y hm
      by_cases hy : y.data.toList = []
      · rw [idxE_at htk hgy hy]
        repeat' (first | ((first | refine wSeqr ?_ | refine wIf ?_ | refine wReg ?_ | (refine wRet ?_; (try simp only [thenQ, blockQ]); refine ends_by ?_)); intro xx hx; have hc := trivial; (repeat' (simp only [hc, Nat.reduceBEq, go_sem, Nat.reduceAdd, Nat.reduceMul, Nat.reduceSub, Nat.reduceEqDiff, Nat.reduceLT, Nat.reduceLeDiff, Int.reduceEq, Int.reduceLT, Int.reduceLE, reduceIte, aresults, aresult, hp0, h0, h1, h7, h8, hg', hcg, hy, w1] at hx; (try (rw [guardL_if] at hx; split at hx <;> rename_i hc)))); all_goals (subst hx; first | (refine ⟨_, rfl, fun ht => ?_, fun ht => ?_⟩ <;> (try simp only [bbs] at ht)) | (refine ⟨_, rfl, ?_⟩; (try simp only [tupOf])))) | refine wSkip ?_ | (refine wExit ?_; simp only [thenQ, blockQ, reduceIte, Nat.reduceEqDiff]) | refine wSeq ?_ | refine wBlock ?_)
        all_goals try (exfalso; (try simp only [bbs] at *); first | omega | exact absurd trivial (by assumption))
        all_goals exact gives_intv rfl
      · repeat' (first | ((first | refine wSeqr ?_ | refine wIf ?_ | refine wReg ?_ | (refine wRet ?_; (try simp only [thenQ, blockQ]); refine ends_by ?_)); intro xx hx; have hc := trivial; (repeat' (simp only [hc, Nat.reduceBEq, go_sem, Nat.reduceAdd, Nat.reduceMul, Nat.reduceSub, Nat.reduceEqDiff, Nat.reduceLT, Nat.reduceLeDiff, Int.reduceEq, Int.reduceLT, Int.reduceLE, reduceIte, aresults, aresult, hp0, h0, h1, h7, h8, hg', hcg, hy, w1] at hx; (try (rw [guardL_if] at hx; split at hx <;> rename_i hc)))); all_goals (subst hx; first | (refine ⟨_, rfl, fun ht => ?_, fun ht => ?_⟩ <;> (try simp only [bbs] at ht)) | (refine ⟨_, rfl, ?_⟩; (try simp only [tupOf])))) | refine wSkip ?_ | (refine wExit ?_; simp only [thenQ, blockQ, reduceIte, Nat.reduceEqDiff]) | refine wSeq ?_ | refine wBlock ?_)
        all_goals try (exfalso; (try simp only [bbs] at *); first | omega | exact absurd trivial (by assumption))
        refine ⟨_, Nat.sub_lt (by omega) Nat.one_pos, j + 1, by omega, by simp only [upd_eq, Nat.reduceEqDiff, if_false, if_true, h0, h1, h7, h8], by simp only [upd_eq, Nat.reduceEqDiff, if_false, if_true, h0, h1, h7, h8], by simp only [upd_eq, Nat.reduceEqDiff, if_false, if_true, h0, h1, h7, h8], by simp only [upd_eq, Nat.reduceEqDiff, if_false, if_true, h0, h1, h7, h8], ?_⟩
        exact take_ne htk hgy hy
    · have hj' : j = l.length := by omega
      rw [hj', List.take_length] at htk
      rw [idxE_none htk]
      repeat' (first | ((first | refine wSeqr ?_ | refine wIf ?_ | refine wReg ?_ | (refine wRet ?_; (try simp only [thenQ, blockQ]); refine ends_by ?_)); intro xx hx; have hc := trivial; (repeat' (simp only [hc, Nat.reduceBEq, go_sem, Nat.reduceAdd, Nat.reduceMul, Nat.reduceSub, Nat.reduceEqDiff, Nat.reduceLT, Nat.reduceLeDiff, Int.reduceEq, Int.reduceLT, Int.reduceLE, reduceIte, aresults, aresult, hp0, h7, h8] at hx; (try (rw [guardL_if] at hx; split at hx <;> rename_i hc)))); all_goals (subst hx; first | (refine ⟨_, rfl, fun ht => ?_, fun ht => ?_⟩ <;> (try simp only [bbs] at ht)) | (refine ⟨_, rfl, ?_⟩; (try simp only [tupOf])))) | refine wSkip ?_ | (refine wExit ?_; simp only [thenQ, blockQ, reduceIte, Nat.reduceEqDiff]) | refine wSeq ?_ | refine wBlock ?_)
      all_goals try (exfalso; (try simp only [bbs] at *); first | omega | exact absurd trivial (by assumption))
      all_goals exact gives_intv rfl
  · refine ⟨0, by omega, rfl, rfl, rfl, rfl, fun x hx => by simp at hx⟩
/-- The list's own block while it is being thinned out: what was kept, then anything, then what is ahead. -/
def Thin (H : Hp) (b : Nat) (l : List ByteArray) (j m : Nat) : Prop := ∃ mid : List ByteArray, H.h b = some (((l.take j).filter neB ++ mid ++ l.drop j).map txcell) ∧ m = ((l.take j).filter neB).length ∧ m + mid.length = j
theorem fil_all {l : List ByteArray} (h : ∀ s ∈ l, neB s = true) : l.filter neB = l := List.filter_eq_self.2 h
theorem idxE_cases (l : List ByteArray) : (idxE l = -1 ∧ ∀ s ∈ l, neB s = true) ∨ ∃ j s, idxE l = (j : Nat) ∧ l[j]? = some s ∧ s.data.toList = [] ∧ ∀ s ∈ l.take j, neB s = true := by
  induction l with
  | nil => exact .inl ⟨rfl, by simp⟩
  | cons y r ih =>
    by_cases hy : y.data.toList = []
    · exact .inr ⟨0, y, by simp [idxE, hy], rfl, hy, by simp⟩
    · have hyn : neB y = true := by simpa [neB] using hy
      rcases ih with ⟨h1, h2⟩ | ⟨j, s, h1, h2, h3, h4⟩
      · refine .inl ⟨by simp only [idxE, if_neg hy, h1, if_true], fun s hs => ?_⟩
        rcases List.mem_cons.1 hs with rfl | hs
        · exact hyn
        · exact h2 s hs
      · refine .inr ⟨j + 1, s, ?_, by simpa using h2, h3, fun s hs => ?_⟩
        · simp only [idxE, if_neg hy, h1]; rw [if_neg (by omega)]; omega
        · rw [List.take_succ_cons] at hs
          rcases List.mem_cons.1 hs with rfl | hs
          · exact hyn
          · exact h4 s hs
theorem ok_Del : fnOk Tryz.prog cfg0 50 Tryz.f50 = true := by kernel_rfl
theorem d_Del (l : List ByteArray) (hl : l.length ≤ 4000000) (g : Nat) (hg : ∀ s : ByteArray, ∀ H, call Tryz.prog cfg0 0 g [.v (.string s)] H = some (.v (.bool (decide (s.data.toList = []))), H)) {H : Hp} {b : Nat} (hb : H.h b = some (l.map txcell)) (hbg : b < H.g) {q : Option (AV × Hp)} (hq : call Tryz.prog cfg0 0 50 [.sl b 1 0 l.length, .fn g []] H = q) :
    ∃ H' zs, q = some (.sl b 1 0 (l.filter neB).length, H') ∧ H'.h b = some ((l.filter neB ++ zs).map txcell) ∧ H'.g = H.g ∧ ∀ b', b' ≠ b → H'.h b' = H.h b' := by
  subst hq
  have key : ∃ r, body Tryz.prog cfg0 50 Tryz.f50 [.sl b 1 0 l.length, .fn g []] H = some r ∧ (∃ zs, r.1 = .sl b 1 0 (l.filter neB).length ∧ r.2.h b = some ((l.filter neB ++ zs).map txcell) ∧ r.2.g = H.g ∧ ∀ b', b' ≠ b → r.2.h b' = H.h b') := by
    refine body_wp (rs := [.tmp 4]) rfl rfl (R := fun x H' => ∃ zs, x = .sl b 1 0 (l.filter neB).length ∧ H'.h b = some ((l.filter neB ++ zs).map txcell) ∧ H'.g = H.g ∧ ∀ b', b' ≠ b → H'.h b' = H.h b') ?_
    have hp0 : ∀ b, cfg0.pol 50 b = 0 := fun b => rfl
    have hix : call Tryz.prog cfg0 0 85 [.sl b 1 0 l.length, .fn g []] H = some (.v (.int .i64 (idxE l)), H) :=
      call_of (p := 0) (H := H) Tryz.func85 rfl ok_iIdx rfl (by omega) (mapM_c (deep_txts hb rfl hbg 10) (mapM_c rfl mapM_n)) (p_iIdx l hl g fun s _ => hg s) (.inl rfl)
    rcases idxE_cases l with ⟨e1, hall⟩ | ⟨i0, s0, e1, g0, hs0, htk⟩
    · rw [e1] at hix
      repeat' (first | ((first | refine wSeqr ?_ | refine wIf ?_ | refine wReg ?_ | (refine wRet ?_; (try simp only [thenQ, blockQ]); refine ends_by ?_)); intro xx hx; have hc := trivial; (repeat' (simp only [hc, Nat.reduceBEq, go_sem, Nat.reduceAdd, Nat.reduceMul, Nat.reduceSub, Nat.reduceEqDiff, Nat.reduceLT, Nat.reduceLeDiff, Int.reduceEq, Int.reduceLT, Int.reduceLE, reduceIte, aresults, aresult, hp0, hix] at hx; (try (rw [guardL_if] at hx; split at hx <;> rename_i hc)))); all_goals (subst hx; first | (refine ⟨_, rfl, fun ht => ?_, fun ht => ?_⟩ <;> (try simp only [bbs] at ht)) | (refine ⟨_, rfl, ?_⟩; (try simp only [tupOf])))) | refine wSkip ?_ | (refine wExit ?_; simp only [thenQ, blockQ, reduceIte, Nat.reduceEqDiff]) | refine wSeq ?_ | refine wBlock ?_)
      all_goals try (exfalso; (try simp only [bbs] at *); first | omega | exact absurd trivial (by assumption))
      exact ⟨[], by rw [fil_all hall], by rw [fil_all hall, List.append_nil]; exact hb, by first | trivial | rfl, fun _ _ => by first | trivial | rfl⟩
    · rw [e1] at hix
      have hi1 : ¬ ((i0 : Nat) : Int) = -1 := by omega
      have hil := (List.getElem?_eq_some_iff.1 g0).1
      have w0 : IntKind.wrap .i64 (((i0 : Nat) : Int) + 1) = ((i0 + 1 : Nat) : Int) := wrap_succ (by omega)
      have hf0 := fil_take g0
      rw [if_pos hs0, List.append_nil, fil_all htk] at hf0
      repeat' ((fail_if_success (first | refine wAt 11 ?_)); first | ((first | refine wSeqr ?_ | refine wIf ?_ | refine wReg ?_ | (refine wRet ?_; (try simp only [thenQ, blockQ]); refine ends_by ?_)); intro xx hx; have hc := trivial; (repeat' (simp only [hc, Nat.reduceBEq, go_sem, Nat.reduceAdd, Nat.reduceMul, Nat.reduceSub, Nat.reduceEqDiff, Nat.reduceLT, Nat.reduceLeDiff, Int.reduceEq, Int.reduceLT, Int.reduceLE, reduceIte, aresults, aresult, hp0, hix, hi1, w0] at hx; (try (rw [guardL_if] at hx; split at hx <;> rename_i hc)))); all_goals (subst hx; first | (refine ⟨_, rfl, fun ht => ?_, fun ht => ?_⟩ <;> (try simp only [bbs] at ht)) | (refine ⟨_, rfl, ?_⟩; (try simp only [tupOf])))) | refine wSkip ?_ | (refine wExit ?_; simp only [thenQ, blockQ, reduceIte, Nat.reduceEqDiff]) | refine wSeq ?_ | refine wBlock ?_)
      all_goals try (exfalso; (try simp only [bbs] at *); first | omega | exact absurd trivial (by assumption))
      refine wLoop (fun k s => ∃ (j : Nat) (m : Nat), j + k = l.length - (i0 + 1) ∧ s.1 0 = .sl b 1 0 l.length ∧ s.1 1 = .fn g [] ∧ s.1 5 = .v (.int .i64 (m : Nat)) ∧ s.1 6 = .v (.int .i64 ((i0 + 1 + j : Nat) : Int)) ∧ (Thin s.2 b l (i0 + 1 + j) m) ∧ (s.2.g = H.g ∧ ∀ b', b' ≠ b → s.2.h b' = H.h b')) (fun k s hI => ?_) (l.length - (i0 + 1)) _ ?_
      · obtain ⟨e, K⟩ := s
        obtain ⟨j, m, hj, h0, h1, h5, h6, hth, hgk⟩ := hI
        simp only at h0 h1 h5 h6 hth hgk
        obtain ⟨mid, hbk, hm, hml⟩ := hth
        by_cases hlt : i0 + 1 + j < l.length
        · obtain ⟨y, hgy, hd, hym⟩ := at_drop hlt
          have hft := fil_take hgy
          have hltI : ((i0 + 1 + j : Nat) : Int) < (l.length : Int) := by omega
          have w1 : IntKind.wrap .i64 (((i0 + 1 + j : Nat) : Int) + 1) = ((i0 + 1 + (j + 1) : Nat) : Int) := by rw [wrap_i64 (by omega) (by omega)]; omega
          have wm : IntKind.wrap .i64 (((m : Nat) : Int) + 1) = ((m + 1 : Nat) : Int) := wrap_succ (by omega)
          have hgp : (((l.take (i0 + 1 + j)).filter neB ++ mid ++ l.drop (i0 + 1 + j)).map txcell)[i0 + 1 + j]? = some (txcell y) := by
            rw [List.getElem?_map, List.getElem?_append_right (by rw [List.length_append]; omega), List.length_append, hd, show i0 + 1 + j - (((l.take (i0 + 1 + j)).filter neB).length + mid.length) = 0 by omega]
            rfl
          have hlen : (((l.take (i0 + 1 + j)).filter neB ++ mid ++ l.drop (i0 + 1 + j)).map txcell).length = l.length := by
            rw [List.length_map, List.length_append, List.length_append, List.length_drop]; omega
          have hcg := hg y
          by_cases hy : y.data.toList = []
          · rw [if_pos hy, List.append_nil] at hft
            repeat' (first | ((first | refine wSeqr ?_ | refine wIf ?_ | refine wReg ?_ | (refine wRet ?_; (try simp only [thenQ, blockQ]); refine ends_by ?_)); intro xx hx; have hc := trivial; (repeat' (simp only [hc, Nat.reduceBEq, go_sem, Nat.reduceAdd, Nat.reduceMul, Nat.reduceSub, Nat.reduceEqDiff, Nat.reduceLT, Nat.reduceLeDiff, Int.reduceEq, Int.reduceLT, Int.reduceLE, reduceIte, aresults, aresult, hp0, h0, h1, h5, h6, hltI, hbk, Option.isSome_some, hlt, hgp, txcell, hcg, hy, w1] at hx; (try (rw [guardL_if] at hx; split at hx <;> rename_i hc)))); all_goals (subst hx; first | (refine ⟨_, rfl, fun ht => ?_, fun ht => ?_⟩ <;> (try simp only [bbs] at ht)) | (refine ⟨_, rfl, ?_⟩; (try simp only [tupOf])))) | refine wSkip ?_ | (refine wExit ?_; simp only [thenQ, blockQ, reduceIte, Nat.reduceEqDiff]) | refine wSeq ?_ | refine wBlock ?_)
            all_goals try (exfalso; (try simp only [bbs] at *); first | omega | exact absurd trivial (by assumption))
            refine ⟨_, Nat.sub_lt (by omega) Nat.one_pos, j + 1, m, by omega, by simp only [upd_eq, Nat.reduceEqDiff, if_false, if_true, h0, h1, h5, h6], by simp only [upd_eq, Nat.reduceEqDiff, if_false, if_true, h0, h1, h5, h6], by simp only [upd_eq, Nat.reduceEqDiff, if_false, if_true, h0, h1, h5, h6], by simp only [upd_eq, Nat.reduceEqDiff, if_false, if_true, h0, h1, h5, h6], ?_⟩
            refine ⟨⟨mid ++ [y], ?_, by rw [← Nat.add_assoc, hft]; exact hm, by rw [List.length_append, List.length_singleton]; omega⟩, hgk⟩
            rw [hbk, hd, ← Nat.add_assoc, hft]; simp
          · rw [if_neg hy] at hft
            have hml2 : m < l.length := by omega
            have hml3 : m + 1 ≤ (((l.take (i0 + 1 + j)).filter neB ++ mid ++ l.drop (i0 + 1 + j)).map txcell).length := by omega
            repeat' (first | ((first | refine wSeqr ?_ | refine wIf ?_ | refine wReg ?_ | (refine wRet ?_; (try simp only [thenQ, blockQ]); refine ends_by ?_)); intro xx hx; have hc := trivial; (repeat' (simp only [hc, Nat.reduceBEq, go_sem, Nat.reduceAdd, Nat.reduceMul, Nat.reduceSub, Nat.reduceEqDiff, Nat.reduceLT, Nat.reduceLeDiff, Int.reduceEq, Int.reduceLT, Int.reduceLE, reduceIte, aresults, aresult, hp0, h0, h1, h5, h6, hltI, hbk, Option.isSome_some, hlt, hml2, hml3, hgp, txcell, hcg, hy, w1, wm] at hx; (try (rw [guardL_if] at hx; split at hx <;> rename_i hc)))); all_goals (subst hx; first | (refine ⟨_, rfl, fun ht => ?_, fun ht => ?_⟩ <;> (try simp only [bbs] at ht)) | (refine ⟨_, rfl, ?_⟩; (try simp only [tupOf])))) | refine wSkip ?_ | (refine wExit ?_; simp only [thenQ, blockQ, reduceIte, Nat.reduceEqDiff]) | refine wSeq ?_ | refine wBlock ?_)
            all_goals try (exfalso; (try simp only [bbs] at *); first | omega | exact absurd trivial (by assumption))
            refine ⟨_, Nat.sub_lt (by omega) Nat.one_pos, j + 1, m + 1, by omega, by simp only [upd_eq, Nat.reduceEqDiff, if_false, if_true, h0, h1, h5, h6], by simp only [upd_eq, Nat.reduceEqDiff, if_false, if_true, h0, h1, h5, h6], by simp only [upd_eq, Nat.reduceEqDiff, if_false, if_true, h0, h1, h5, h6], by simp only [upd_eq, Nat.reduceEqDiff, if_false, if_true, h0, h1, h5, h6], ?_⟩
            have hbs : ((((l.take (i0 + 1 + j)).filter neB ++ mid ++ l.drop (i0 + 1 + j)).map txcell).set m (txcell y)) = ((l.take (i0 + 1 + (j + 1))).filter neB ++ (mid.drop 1 ++ (if mid = [] then [] else [y])) ++ l.drop (i0 + 1 + (j + 1))).map txcell := by
              rw [← List.map_set, hd, ← Nat.add_assoc, hft, hm, List.append_assoc, List.set_append_right _ _ (Nat.le_refl _), Nat.sub_self]
              cases mid with
              | nil => simp
              | cons z mid => simp
            refine ⟨⟨mid.drop 1 ++ (if mid = [] then [] else [y]), ?_, by rw [← Nat.add_assoc, hft, List.length_append, ← hm]; rfl, ?_⟩, ⟨hgk.1, fun b' hne => by rw [Hp.set_h, if_neg hne]; exact hgk.2 b' hne⟩⟩
            · rw [← hbs]; exact if_pos rfl
            · cases mid with
              | nil => simp at hml ⊢; omega
              | cons z mid => simp at hml ⊢; omega
        · have hltI : ¬ ((i0 + 1 + j : Nat) : Int) < (l.length : Int) := by omega
          have hpe : i0 + 1 + j = l.length := by omega
          rw [hpe, List.take_length, List.drop_length, List.append_nil] at hbk
          rw [hpe, List.take_length] at hm
          have hmid : mid.length = l.length - m := by omega
          have hlen : ((l.filter neB ++ mid).map txcell).length = l.length := by rw [List.length_map, List.length_append]; omega
          repeat' ((fail_if_success (first | refine wAt 11 ?_)); first | ((first | refine wSeqr ?_ | refine wIf ?_ | refine wReg ?_ | (refine wRet ?_; (try simp only [thenQ, blockQ]); refine ends_by ?_)); intro xx hx; have hc := trivial; (repeat' (simp only [hc, Nat.reduceBEq, go_sem, Nat.reduceAdd, Nat.reduceMul, Nat.reduceSub, Nat.reduceEqDiff, Nat.reduceLT, Nat.reduceLeDiff, Int.reduceEq, Int.reduceLT, Int.reduceLE, reduceIte, aresults, aresult, hp0, h0, h6, hltI] at hx; (try (rw [guardL_if] at hx; split at hx <;> rename_i hc)))); all_goals (subst hx; first | (refine ⟨_, rfl, fun ht => ?_, fun ht => ?_⟩ <;> (try simp only [bbs] at ht)) | (refine ⟨_, rfl, ?_⟩; (try simp only [tupOf])))) | refine wSkip ?_ | (refine wExit ?_; simp only [thenQ, blockQ, reduceIte, Nat.reduceEqDiff]) | refine wSeq ?_ | refine wBlock ?_)
          all_goals try (exfalso; (try simp only [bbs] at *); first | omega | exact absurd trivial (by assumption))
          have hml4 : m ≤ l.length := by omega
          have hcA : (m ≤ l.length ∧ l.length ≤ ((l.filter neB ++ mid).map txcell).length) = True := eq_true ⟨by omega, by omega⟩
          have hcB : (m + (l.length - m) ≤ ((l.filter neB ++ mid).map txcell).length) = True := eq_true (by omega)
          have hset : setAll ((l.filter neB ++ mid).map txcell) m (List.replicate (l.length - m) (txcell ⟨#[]⟩)) = (l.filter neB ++ List.replicate (l.length - m) (⟨#[]⟩ : ByteArray)).map txcell := by
            have h1 := setAll_mid (List.replicate (l.length - m) (txcell ⟨#[]⟩)) ((l.filter neB).map txcell) (mid.map txcell) [] (by simp [hmid])
            rw [List.append_nil, List.append_nil, List.length_map, ← hm] at h1
            rw [List.map_append, h1, List.map_append, List.map_replicate]
          have hcD : (0 ≤ m ∧ m ≤ ((l.filter neB ++ List.replicate (l.length - m) (⟨#[]⟩ : ByteArray)).map txcell).length) = True := eq_true ⟨Nat.zero_le _, by rw [List.length_map, List.length_append]; omega⟩
          have hst : AV.v (.string ⟨#[]⟩) = txcell ⟨#[]⟩ := rfl
          repeat' (first | ((first | refine wSeqr ?_ | refine wIf ?_ | refine wReg ?_ | (refine wRet ?_; (try simp only [thenQ, blockQ]); refine ends_by ?_)); intro xx hx; have hc := trivial; (repeat' (simp only [hc, Nat.reduceBEq, go_sem, Nat.reduceAdd, Nat.reduceMul, Nat.reduceSub, Nat.reduceEqDiff, Nat.reduceLT, Nat.reduceLeDiff, Int.reduceEq, Int.reduceLT, Int.reduceLE, reduceIte, aresults, aresult, hp0, h0, h5, hbk, slTO, slTOF, hcA, aclear, el46, zero9, hst, hcB, hset, hcD, Nat.sub_zero] at hx; (try (rw [guardL_if] at hx; split at hx <;> rename_i hc)))); all_goals (subst hx; first | (refine ⟨_, rfl, fun ht => ?_, fun ht => ?_⟩ <;> (try simp only [bbs] at ht)) | (refine ⟨_, rfl, ?_⟩; (try simp only [tupOf])))) | refine wSkip ?_ | (refine wExit ?_; simp only [thenQ, blockQ, reduceIte, Nat.reduceEqDiff]) | refine wSeq ?_ | refine wBlock ?_)
          all_goals try (exfalso; (try simp only [bbs] at *); first | omega | exact absurd trivial (by assumption))
          exact ⟨List.replicate (l.length - m) ⟨#[]⟩, by rw [hm], if_pos rfl, hgk.1, fun b' hne => by rw [Hp.set_h, if_neg hne]; exact hgk.2 b' hne⟩
      · refine ⟨0, i0, by omega, rfl, rfl, rfl, ?_, ?_⟩
        · simp only [upd_eq, Nat.reduceEqDiff, if_false, if_true]
        · refine ⟨⟨[s0], ?_, ?_, ?_⟩, rfl, fun _ _ => rfl⟩
          · rw [Nat.add_zero, hf0]
            have : l.take i0 ++ [s0] ++ l.drop (i0 + 1) = l := by
              have h1 := List.take_append_drop i0 l
              rw [List.drop_eq_getElem_cons hil, (List.getElem?_eq_some_iff.1 g0).2] at h1
              simpa using h1
            rw [this]; exact hb
          · rw [Nat.add_zero, hf0, List.length_take]; omega
          · simp
  obtain ⟨⟨v, H'⟩, h1, zs, rfl, h2, h3⟩ := key
  exact ⟨H', zs, by rw [call_raw Tryz.prog cfg0 Tryz.func50 rfl ok_Del rfl rfl, h1], h2, h3⟩
theorem gO_trs {H : Hp} {b : Nat} {l zs : List ByteArray} {c : Int} (h : H.h b = some ((l ++ zs).map txcell)) (hb : b < H.g) : GivesO (.agg [.v (.int .i64 c), textsL l]) (.agg [.v (.int .i64 c), .sl b 1 0 l.length]) H := by
  have hcut : (((l ++ zs).map txcell).drop 0).take (l.length * 1) = l.map txcell := by
    rw [List.drop_zero, Nat.mul_one, List.map_append, List.take_left' (by simp)]
  have hd : deep H 11 (.sl b 1 0 l.length) = some (textsL l) := by
    show ((H.h b).bind fun cs => if 0 + l.length * 1 ≤ cs.length ∧ 0 < 1 then (((cs.drop 0).take (l.length * 1)).mapM (deep H 10)).map fun ds => AV.lst false (chunk 1 l.length ds) else none) = _
    rw [h, Option.bind_some, hcut, if_pos ⟨by simp, by omega⟩]
    have h3 : (l.map txcell).mapM (deep H 10) = some (l.map txcell) := mapM_self fun x hx => by
      obtain ⟨z, -, rfl⟩ := List.mem_map.1 hx; rfl
    have := chunk_flat 1 (l.map fun s => [AV.v (.string s)]) (fun c hc => by obtain ⟨z, -, rfl⟩ := List.mem_map.1 hc; rfl)
    rw [txcells_flat, List.length_map] at this
    rw [h3, Option.map_some, this]; rfl
  have hcl : clean H 11 (.sl b 1 0 l.length) = true := by
    show ((((H.h b).getD []).drop 0).take (l.length * 1)).all (clean H 10) = true
    rw [h, Option.getD_some, hcut]
    exact List.all_eq_true.2 fun x hx => by obtain ⟨z, -, rfl⟩ := List.mem_map.1 hx; rfl
  obtain ⟨fp, f1, f2, -⟩ := fpt_flat (d := 10) h (sz := 1) (o := 0) (n := l.length) (fun c hc => by obtain ⟨s, -, rfl⟩ := List.mem_map.1 hc; rfl)
  refine ⟨⟨?_, ?_⟩, fp, ?_, f2⟩
  · show ([AV.v (.int .i64 c), .sl b 1 0 l.length].mapM (deep H 11)).map AV.agg = _
    rw [mapM_c (show deep H 11 (.v (.int .i64 c)) = some (.v (.int .i64 c)) from rfl) (mapM_c hd mapM_n)]; rfl
  · show [AV.v (.int .i64 c), .sl b 1 0 l.length].all (clean H 11) = true
    simp only [List.all_cons, List.all_nil, hcl, Bool.and_true]; rfl
  · show ([AV.v (.int .i64 c), .sl b 1 0 l.length].mapM (fpt H 11)).map List.flatten = some fp
    rw [show [AV.v (.int .i64 c), .sl b 1 0 l.length].mapM (fpt H 11) = some [[], fp] from mapM_cons_some.2 ⟨_, _, rfl, mapM_cons_some.2 ⟨_, _, f1, rfl, rfl⟩, rfl⟩]
    simp
theorem ok_iWordsOf : fnOk Tryz.prog cfg0 20 Tryz.f20 = true := by kernel_rfl
theorem pq_iWordsOf (a : ByteArray) (hs : a.size ≤ 1048576) : pure Tryz.prog cfg0 20 Tryz.f20 [.v (.string a)] = some (.agg [.v (.int .i64 (wC a.data.toList)), textsL (wW a.data.toList)], true) ∧ owned Tryz.prog cfg0 20 Tryz.f20 [.v (.string a)] = some (.agg [.v (.int .i64 (wC a.data.toList)), textsL (wW a.data.toList)]) := by
  refine both_wp (rs := [.cell 2 48]) rfl rfl ?_
  have hp0 : ∀ b, cfg0.pol 20 b = (if b = 9 then 1 else 0) := fun b => rfl
  have hsz : a.size = a.data.toList.length := by rw [ByteArray.size]; simp
  by_cases hbig : 3000 < a.data.toList.length
  · have hbI : 3000 < (a.size : Int) := by omega
    rw [show wC a.data.toList = 2 from if_pos hbig, show wW a.data.toList = [] from if_pos hbig]
    repeat' (first | ((first | refine wSeqr ?_ | refine wIf ?_ | refine wReg ?_ | (refine wRet ?_; (try simp only [thenQ, blockQ]); refine ends_by ?_)); intro xx hx; have hc := trivial; (repeat' (simp only [hc, Nat.reduceBEq, go_sem, Nat.reduceAdd, Nat.reduceMul, Nat.reduceSub, Nat.reduceEqDiff, Nat.reduceLT, Nat.reduceLeDiff, Int.reduceEq, Int.reduceLT, Int.reduceLE, reduceIte, aresults, aresult, hp0, hbI] at hx; (try (rw [guardL_if] at hx; split at hx <;> rename_i hc)))); all_goals (subst hx; first | (refine ⟨_, rfl, fun ht => ?_, fun ht => ?_⟩ <;> (try simp only [bbs] at ht)) | (refine ⟨_, rfl, ?_⟩; (try simp only [tupOf])))) | refine wSkip ?_ | (refine wExit ?_; simp only [thenQ, blockQ, reduceIte, Nat.reduceEqDiff]) | refine wSeq ?_ | refine wBlock ?_)
    all_goals try (exfalso; (try simp only [bbs] at *); first | omega | exact absurd trivial (by assumption))
    all_goals exact ⟨⟨rfl, rfl⟩, [], rfl, List.nodup_nil⟩
  · have hbI : ¬ 3000 < (a.size : Int) := by omega
    rw [show wC a.data.toList = 0 from if_neg hbig, show wW a.data.toList = (wordsL a.data.toList).map ba from if_neg hbig, ← wordsL_ba]
    have hsp := c_SplitO a hs
    have hP : ((cutL 32 a.data.toList).map ba).length ≤ a.size + 1 := by rw [List.length_map]; have := cut_size 32 a.data.toList; omega
    have hPl : (cutL 32 a.data.toList).length = ((cutL 32 a.data.toList).map ba).length := by simp
    rw [hPl] at hsp
    generalize (cutL 32 a.data.toList).map ba = P at hsp hP
    repeat' ((fail_if_success (first | refine wAt 4 ?_)); first | ((first | refine wSeqr ?_ | refine wIf ?_ | refine wReg ?_ | (refine wRet ?_; (try simp only [thenQ, blockQ]); refine ends_by ?_)); intro xx hx; have hc := trivial; (repeat' (simp only [hc, Nat.reduceBEq, go_sem, Nat.reduceAdd, Nat.reduceMul, Nat.reduceSub, Nat.reduceEqDiff, Nat.reduceLT, Nat.reduceLeDiff, Int.reduceEq, Int.reduceLT, Int.reduceLE, reduceIte, aresults, aresult, hp0, hbI, hsp] at hx; (try (rw [guardL_if] at hx; split at hx <;> rename_i hc)))); all_goals (subst hx; first | (refine ⟨_, rfl, fun ht => ?_, fun ht => ?_⟩ <;> (try simp only [bbs] at ht)) | (refine ⟨_, rfl, ?_⟩; (try simp only [tupOf])))) | refine wSkip ?_ | (refine wExit ?_; simp only [thenQ, blockQ, reduceIte, Nat.reduceEqDiff]) | refine wSeq ?_ | refine wBlock ?_)
    all_goals try (exfalso; (try simp only [bbs] at *); first | omega | exact absurd trivial (by assumption))
    (first | refine wSeqr ?_ | refine wReg ?_); intro xx hx; have hc := trivial; (repeat' (simp only [hc, Nat.reduceBEq, go_sem, Nat.reduceAdd, Nat.reduceMul, Nat.reduceSub, Nat.reduceEqDiff, Nat.reduceLT, Nat.reduceLeDiff, Int.reduceEq, Int.reduceLT, Int.reduceLE, reduceIte, aresults, aresult, hp0] at hx; (try (rw [guardL_if] at hx; split at hx <;> rename_i hc)))); generalize hq : call Tryz.prog cfg0 0 _ _ _ = q at hx
    obtain ⟨K2, zs, rfl, d1, d2, d3⟩ := d_Del P (by omega) _ (fun s => c_iW1 s) (H := (Hp.nil.new [.v (.int .i64 0), .v (.slice none 0 0)]).new (P.map txcell)) (b := 1) rfl (by show 1 < 2; omega) hq
    clear hq
    have d4 : K2.h 0 = some [.v (.int .i64 0), .v (.slice none 0 0)] := d3 0 (by show 0 ≠ 1; omega)
    have hc := trivial; (repeat' (simp only [hc, Nat.reduceBEq, go_sem, Nat.reduceAdd, Nat.reduceMul, Nat.reduceSub, Nat.reduceEqDiff, Nat.reduceLT, Nat.reduceLeDiff, Int.reduceEq, Int.reduceLT, Int.reduceLE, reduceIte, aresults, aresult, hp0, d4] at hx; (try (rw [guardL_if] at hx; split at hx <;> rename_i hc)))); all_goals (subst hx; refine ⟨_, rfl, ?_⟩)
    repeat' (first | ((first | refine wSeqr ?_ | refine wIf ?_ | refine wReg ?_ | (refine wRet ?_; (try simp only [thenQ, blockQ]); refine ends_by ?_)); intro xx hx; have hc := trivial; (repeat' (simp only [hc, Nat.reduceBEq, go_sem, Nat.reduceAdd, Nat.reduceMul, Nat.reduceSub, Nat.reduceEqDiff, Nat.reduceLT, Nat.reduceLeDiff, Int.reduceEq, Int.reduceLT, Int.reduceLE, reduceIte, aresults, aresult, hp0] at hx; (try (rw [guardL_if] at hx; split at hx <;> rename_i hc)))); all_goals (subst hx; first | (refine ⟨_, rfl, fun ht => ?_, fun ht => ?_⟩ <;> (try simp only [bbs] at ht)) | (refine ⟨_, rfl, ?_⟩; (try simp only [tupOf])))) | refine wSkip ?_ | (refine wExit ?_; simp only [thenQ, blockQ, reduceIte, Nat.reduceEqDiff]) | refine wSeq ?_ | refine wBlock ?_)
    all_goals try (exfalso; (try simp only [bbs] at *); first | omega | exact absurd trivial (by assumption))
    exact gO_trs (zs := zs) (by rw [Hp.set_h, if_neg (by show ¬ 1 = 0; omega)]; exact d1) (by show 1 < K2.g; rw [d2]; show 1 < 2; omega)
theorem c_iWordsOf (a : ByteArray) (hs : a.size ≤ 1048576) : ∀ H, call Tryz.prog cfg0 0 20 [.v (.string a)] H = some (.agg [.v (.int .i64 (wC a.data.toList)), textsL (wW a.data.toList)], H) :=
  call_fz Tryz.func20 rfl ok_iWordsOf rfl (by simp only [fz_cons, fz_nil, go_sem, and_self]) (pq_iWordsOf a hs).1
end
end Go.Proofs.YtakbbccdnkigpaaGreatDoor
