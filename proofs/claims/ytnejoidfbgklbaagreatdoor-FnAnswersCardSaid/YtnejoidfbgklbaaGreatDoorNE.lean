/- Contracts: what a query asks for, both sides. Contracts: what a query asks for, the reference's side. Contracts: queries answered, the program's side. Contracts: queries answered, the reference's side. -/
import Derived.Test.YtnejoidfbgklbaaGreatDoorND
namespace Go.Proofs.YtnejoidfbgklbaaGreatDoor
open Go Go.RowKit Go.Proofs.YtnejoidfbgklbaaGreatDoor.Eng
set_option linter.unusedSimpArgs false
set_option linter.unusedVariables false
set_option maxRecDepth 100000
set_option maxHeartbeats 2000000
noncomputable section
/-- The query of bytes that are neither too few nor too many. -/
def qF (l : List Int) : Option (Int × List ByteArray × Int) := if 12 ≤ l.length ∧ l.length ≤ 300 then askF l else none
theorem rq_some {l : List Int} {i t : Int} {ls : List ByteArray} (h : qF l = some (i, ls, t)) : rqR l = qrR 0 i ls t := by
  unfold qF at h; unfold rqR
  split at h
  · rename_i hc1; rw [if_pos hc1, h]
  · simp at h
theorem rq_none {l : List Int} (h : qF l = none) : ∃ c : Int, ¬ c = 0 ∧ rqR l = qrR c 0 [] 0 := by
  unfold qF at h; unfold rqR
  split at h
  · rename_i hc1; rw [if_pos hc1, h]; exact ⟨1, by omega, rfl⟩
  · rename_i hc1; rw [if_neg hc1]; exact ⟨2, by omega, rfl⟩
theorem qF_ok {l : List Int} (hb : Eng.Bytes l) {i t : Int} {ls : List ByteArray} (h : qF l = some (i, ls, t)) : labsOk ls ∧ (0 ≤ i ∧ i ≤ 65535) ∧ (0 ≤ t ∧ t ≤ 65535) ∧ 12 ≤ l.length ∧ l.length ≤ 300 := by
  unfold qF at h
  split at h
  · rename_i hc1
    unfold askF at h
    split at h
    · rename_i hz
      simp only [Option.some.injEq, Prod.mk.injEq] at h
      obtain ⟨rfl, rfl, rfl⟩ := h
      exact ⟨(nm_ok l 12 12 0 [] 0 ⟨by simp, by simp⟩ (by simp) hz.1).1, num2_b hb _, num2_b hb _, hc1⟩
    · simp at h
  · simp at h
def stF (ls : List ByteArray) (t : Int) : Int := if svOf ls < 0 then 3 else if typB t = true then 0 else 4
def soR (l : List Int) : AV := match qF l with
  | some (i, ls, t) => .tup [.v (.int .i64 (stF ls t)), bytesL (l.drop 12), .agg [.v (.int .i64 i), textsL ls, .v (.int .i64 t)]]
  | none => .tup [.v (.int .i64 1), bytesL [], .agg [.v (.int .i64 0), textsL [], .v (.int .i64 0)]]
theorem d_so (s i t : Int) (d : List Int) (ls : List ByteArray) (H : Hp) : deep H depthD (.tup [.v (.int .i64 s), bytesL d, .agg [.v (.int .i64 i), textsL ls, .v (.int .i64 t)]]) = some (.tup [.v (.int .i64 s), bytesL d, .agg [.v (.int .i64 i), textsL ls, .v (.int .i64 t)]]) := by
  have e0 : deep H 10 (textsL ls) = some (textsL ls) := (fz_rows (n := 9) (fun s x hx => by simp only [List.mem_singleton] at hx; subst hx; exact Fz.string _ _) ls : Fz 10 (textsL ls)).1 H
  have e : deep H 11 (.agg [.v (.int .i64 i), textsL ls, .v (.int .i64 t)]) = some (.agg [.v (.int .i64 i), textsL ls, .v (.int .i64 t)]) := by
    show (List.mapM (deep H 10) _).map AV.agg = _
    rw [mapM_c (show deep H 10 (.v (.int .i64 i)) = some (.v (.int .i64 i)) from rfl) (mapM_c e0 (mapM_c (show deep H 10 (.v (.int .i64 t)) = some (.v (.int .i64 t)) from rfl) mapM_n))]
    rfl
  show (List.mapM (deep H 11) _).map AV.tup = _
  rw [mapM_c (show deep H 11 (.v (.int .i64 s)) = some (.v (.int .i64 s)) from rfl) (mapM_c ((bytesL_fz 9 d).1 H) (mapM_c e mapM_n))]
  rfl
theorem labs_sizes {ls : List ByteArray} (h : labsOk ls) : ∀ z ∈ ls, z.size ≤ 1048576 := fun z hz => by
  have := lab_size (h.2 z hz); omega
theorem ok_istatusOf : fnOk Tryz.prog cfg0 41 Tryz.f41 = true := by kernel_rfl
theorem p_istatusOf (l : List Int) (hb : Eng.Bytes l) (hl : l.length ≤ 1048576) : ∃ cl, pure Tryz.prog cfg0 41 Tryz.f41 [bytesL l] = some (soR l, cl) := by
  have key : ∃ v cl, v = (soR l : AV) ∧ pure Tryz.prog cfg0 41 Tryz.f41 [bytesL l] = some (v, cl) := by
    refine pure_ex (rs := [.tmp 2, .tmp 3, .cell 4 26]) rfl rfl ?_
    have hp0 : ∀ b, cfg0.pol 41 b = 0 := fun b => rfl
    have hrq := c_iReadQuery l hb hl
    cases hqf : qF l with
    | none =>
      obtain ⟨c, hc0, hcr⟩ := rq_none hqf
      rw [hcr] at hrq
      unfold qrR at hrq
      rw [show soR l = .tup [.v (.int .i64 1), bytesL [], .agg [.v (.int .i64 0), textsL [], .v (.int .i64 0)]] by unfold soR; rw [hqf]]
      have tx := tx_ok []
      (have hF := an hp0 <| an hrq <| an hc0 <| an tx.1 <| tx.2; have hc := trivial; repeat' (first | refine wK ?_ | refine wX ?_ | refine rR ?_ | refine rB ?_ ?_ <;> intro ht <;> try simp only [bbs] at ht | refine rG ?_ ?_ <;> intro hc | refine rZ ?_ | refine wQ ?_))
      all_goals try exact False.elim kk
      all_goals exact dirty rfl
    | some z =>
      obtain ⟨i, ls, t⟩ := z
      have hcr := rq_some hqf
      obtain ⟨hk, hi, htt, h12, h300⟩ := qF_ok hb hqf
      rw [hcr] at hrq
      unfold qrR at hrq
      have hsl : (12 ≤ l.length) = True := eq_true h12
      rw [show soR l = .tup [.v (.int .i64 (stF ls t)), bytesL (l.drop 12), .agg [.v (.int .i64 i), textsL ls, .v (.int .i64 t)]] by unfold soR; rw [hqf]]
      have tx := tx_ok ls
      have hsv := c_iServiceOf ls (labs_sizes hk)
      have hty := c_iisType t
      by_cases hs : svOf ls < 0
      · have hcs : svC ls = 4 := by unfold svC; rw [if_pos hs]
        rw [hcs] at hsv
        rw [show stF ls t = 3 from if_pos hs]
        (have hF := an hp0 <| an hrq <| an hsv <| an hsl <| an tx.1 <| tx.2; have hc := trivial; repeat' (first | refine wK ?_ | refine wX ?_ | refine rR ?_ | refine rB ?_ ?_ <;> intro ht <;> try simp only [bbs] at ht | refine rG ?_ ?_ <;> intro hc | refine rZ ?_ | refine wQ ?_))
        all_goals try exact False.elim kk
        all_goals exact dirty (d_so _ _ _ _ _ _)
      · have hcs : svC ls = 0 := by unfold svC; rw [if_neg hs]
        rw [hcs] at hsv
        cases htb : typB t with
        | true =>
          rw [show stF ls t = 0 by unfold stF; rw [if_neg hs, if_pos htb]]
          rw [htb] at hty
          (have hF := an hp0 <| an hrq <| an hsv <| an hty <| an hsl <| an tx.1 <| tx.2; have hc := trivial; repeat' (first | refine wK ?_ | refine wX ?_ | refine rR ?_ | refine rB ?_ ?_ <;> intro ht <;> try simp only [bbs] at ht | refine rG ?_ ?_ <;> intro hc | refine rZ ?_ | refine wQ ?_))
          all_goals try exact False.elim kk
          all_goals exact dirty (d_so _ _ _ _ _ _)
        | false =>
          rw [show stF ls t = 4 by unfold stF; rw [if_neg hs, if_neg (by simp [htb])]]
          rw [htb] at hty
          (have hF := an hp0 <| an hrq <| an hsv <| an hty <| an hsl <| an tx.1 <| tx.2; have hc := trivial; repeat' (first | refine wK ?_ | refine wX ?_ | refine rR ?_ | refine rB ?_ ?_ <;> intro ht <;> try simp only [bbs] at ht | refine rG ?_ ?_ <;> intro hc | refine rZ ?_ | refine wQ ?_))
          all_goals try exact False.elim kk
          all_goals exact dirty (d_so _ _ _ _ _ _)
  obtain ⟨v, cl, rfl, hp⟩ := key
  exact ⟨cl, hp⟩
theorem c_istatusOf (l : List Int) (hb : Eng.Bytes l) (hl : l.length ≤ 1048576) : ∀ H, call Tryz.prog cfg0 0 41 [bytesL l] H = some (soR l, H) := fun H => by
  obtain ⟨cl, hp⟩ := p_istatusOf l hb hl
  exact call_fz Tryz.func41 rfl ok_istatusOf rfl (by simp only [fz_cons, fz_nil, go_sem, and_self]) hp H

end
end Go.Proofs.YtnejoidfbgklbaaGreatDoor
namespace Go.Proofs.YtnejoidfbgklbaaGreatDoor
open Go Go.RowKit Go.Proofs.YtnejoidfbgklbaaGreatDoor.Eng
set_option linter.unusedSimpArgs false
set_option linter.unusedVariables false
set_option maxRecDepth 100000
set_option maxHeartbeats 2000000
noncomputable section
theorem sv_le (ls : List ByteArray) : svOf ls ≤ 99 := by
  unfold svOf
  split
  · unfold numOf
    split
    · rename_i h
      have hd : (svNum ls).all isDg = true := by have := h.1; simp only [canon, Bool.and_eq_true] at this; exact this.1.2
      have hv := vdA_lt (svNum ls) 0 hd
      have : 10 ^ (svNum ls).length ≤ 10 ^ 2 := Nat.pow_le_pow_right (by decide) h.2
      omega
    · omega
  · omega
def stQ (l : List Int) : Int := match qF l with
  | some (_, ls, t) => stF ls t
  | none => 1
def quQ (l : List Int) : List Int := match qF l with
  | some _ => l.drop 12
  | none => []
def rsQ (v : List ClaimM) (l : List Int) : List RecordM := match qF l with
  | some (_, ls, t) => if stF ls t = 0 then recsL v (svOf ls) t else []
  | none => []
theorem d_st (s : Int) (rs : List RecordM) (H : Hp) : deep H depthD (.tup [.v (.int .i64 s), .lst false (rs.map encRecord)]) = some (.tup [.v (.int .i64 s), .lst false (rs.map encRecord)]) := by
  have e : deep H 11 (.lst false (rs.map encRecord)) = some (.lst false (rs.map encRecord)) := (fz_rows (n := 10) (fun k => fzE_Record 9 k) rs).1 H
  show (List.mapM (deep H 11) _).map AV.tup = _
  rw [mapM_c (show deep H 11 (.v (.int .i64 s)) = some (.v (.int .i64 s)) from rfl) (mapM_c e mapM_n)]
  rfl
theorem ok_sl10Status : fnOk Tryz.prog cfg0 47 Tryz.f47 = true := by kernel_rfl
theorem p_sl10Status (vw : List ClaimM) (hv : vw.length ≤ 1048576) (hm : CMeta vw) (l : List Int) (hb : Eng.Bytes l) (hl : l.length ≤ 1048576) : ∃ cl, pure Tryz.prog cfg0 47 Tryz.f47 [.lst false (vw.map encClaim), bytesL l] = some (.tup [.v (.int .i64 (stQ l)), .lst false ((rsQ vw l).map encRecord)], cl) := by
  have key : ∃ v cl, v = (.tup [.v (.int .i64 (stQ l)), .lst false ((rsQ vw l).map encRecord)] : AV) ∧ pure Tryz.prog cfg0 47 Tryz.f47 [.lst false (vw.map encClaim), bytesL l] = some (v, cl) := by
    refine pure_ex (rs := [.tmp 4, .tmp 5]) rfl rfl ?_
    have hp0 : ∀ b, cfg0.pol 47 b = 0 := fun b => rfl
    have hrq := c_sReadQuery l hb hl
    cases hqf : qF l with
    | none =>
      obtain ⟨c, hc0, hcr⟩ := rq_none hqf
      rw [hcr] at hrq
      unfold qrR at hrq
      rw [show stQ l = 1 by unfold stQ; rw [hqf], show rsQ vw l = [] by unfold rsQ; rw [hqf]]
      have tx := tx_ok []
      (have hF := an hp0 <| an hrq <| an hc0 <| an tx.1 <| tx.2; have hc := trivial; repeat' (first | refine wK ?_ | refine wX ?_ | refine rR ?_ | refine rB ?_ ?_ <;> intro ht <;> try simp only [bbs] at ht | refine rG ?_ ?_ <;> intro hc | refine rZ ?_ | refine wQ ?_))
      all_goals try exact False.elim kk
      all_goals exact dirty rfl
    | some z =>
      obtain ⟨i, ls, t⟩ := z
      have hcr := rq_some hqf
      obtain ⟨hk, hi, htt, h12, h300⟩ := qF_ok hb hqf
      rw [hcr] at hrq
      unfold qrR at hrq
      rw [show stQ l = stF ls t by unfold stQ; rw [hqf], show rsQ vw l = if stF ls t = 0 then recsL vw (svOf ls) t else [] by unfold rsQ; rw [hqf]]
      have tx := tx_ok ls
      have hsv := c_sl10Service ls
      have hrr := c_sl10Records vw hv hm (svOf ls) t
      by_cases hs : svOf ls < 0
      · rw [show stF ls t = 3 from if_pos hs]
        (have hF := an hp0 <| an hrq <| an hsv <| an hs <| an tx.1 <| tx.2; have hc := trivial; repeat' (first | refine wK ?_ | refine wX ?_ | refine rR ?_ | refine rB ?_ ?_ <;> intro ht <;> try simp only [bbs] at ht | refine rG ?_ ?_ <;> intro hc | refine rZ ?_ | refine wQ ?_))
        all_goals try exact False.elim kk
        all_goals exact dirty rfl
      · by_cases htb : t = 1 ∨ t = 33
        · rw [show stF ls t = 0 by unfold stF; rw [if_neg hs, if_pos (by unfold typB; rcases htb with h | h <;> simp [h])]]
          rw [if_pos rfl]
          rcases htb with ht1 | ht1
          · have hT : (t = 1) = True := eq_true ht1
            have hF : (t = 33) = False := eq_false (by omega)
            (have hF := an hp0 <| an hrq <| an hsv <| an hs <| an hrr <| an hT <| an hF <| an not_true_eq_false <| an tx.1 <| tx.2; have hc := trivial; repeat' (first | refine wK ?_ | refine wX ?_ | refine rR ?_ | refine rB ?_ ?_ <;> intro ht <;> try simp only [bbs] at ht | refine rG ?_ ?_ <;> intro hc | refine rZ ?_ | refine wQ ?_))
            all_goals try exact False.elim kk
            all_goals exact dirty (d_st _ _ _)
          · have hT : (t = 33) = True := eq_true ht1
            have hF : (t = 1) = False := eq_false (by omega)
            (have hF := an hp0 <| an hrq <| an hsv <| an hs <| an hrr <| an hT <| an hF <| an not_true_eq_false <| an tx.1 <| tx.2; have hc := trivial; repeat' (first | refine wK ?_ | refine wX ?_ | refine rR ?_ | refine rB ?_ ?_ <;> intro ht <;> try simp only [bbs] at ht | refine rG ?_ ?_ <;> intro hc | refine rZ ?_ | refine wQ ?_))
            all_goals try exact False.elim kk
            all_goals exact dirty (d_st _ _ _)
        · have hT : (t = 33) = False := eq_false (by omega)
          have hF : (t = 1) = False := eq_false (by omega)
          rw [show stF ls t = 4 by unfold stF; rw [if_neg hs, if_neg (by unfold typB; simp [hT, hF])]]
          (have hF := an hp0 <| an hrq <| an hsv <| an hs <| an hT <| an hF <| an not_true_eq_false <| an tx.1 <| tx.2; have hc := trivial; repeat' (first | refine wK ?_ | refine wX ?_ | refine rR ?_ | refine rB ?_ ?_ <;> intro ht <;> try simp only [bbs] at ht | refine rG ?_ ?_ <;> intro hc | refine rZ ?_ | refine wQ ?_))
          all_goals try exact False.elim kk
          all_goals exact dirty rfl
  obtain ⟨v, cl, rfl, hp⟩ := key
  exact ⟨cl, hp⟩
theorem c_sl10Status (vw : List ClaimM) (hv : vw.length ≤ 1048576) (hm : CMeta vw) (l : List Int) (hb : Eng.Bytes l) (hl : l.length ≤ 1048576) : ∀ H, call Tryz.prog cfg0 0 47 [.lst false (vw.map encClaim), bytesL l] H = some (.tup [.v (.int .i64 (stQ l)), .lst false ((rsQ vw l).map encRecord)], H) := fun H => by
  obtain ⟨cl, hp⟩ := p_sl10Status vw hv hm l hb hl
  exact call_fz Tryz.func47 rfl ok_sl10Status rfl (by simp only [fz_cons, fz_nil, go_sem, and_self]) hp H

end
end Go.Proofs.YtnejoidfbgklbaaGreatDoor
namespace Go.Proofs.YtnejoidfbgklbaaGreatDoor
open Go Go.RowKit Go.Proofs.YtnejoidfbgklbaaGreatDoor.Eng
set_option linter.unusedSimpArgs false
set_option linter.unusedVariables false
set_option maxRecDepth 100000
set_option maxHeartbeats 2000000
noncomputable section
/-- The answer with so many records. -/
def ansN (l : List Int) (st : Int) (w : List Int) (rs : List RecordM) (n : Nat) : List Int := ansB (l.take 2) st (decide (n < rs.length)) w (rs.take n)
/-- The longest one that has room. -/
def findB (f : Nat → List Int) (mo : Int) : Nat → Option (List Int)
  | 0 => none
  | n + 1 => if ((f n).length : Int) ≤ mo then some (f n) else findB f mo n
def aqO (vw : List ClaimM) (l : List Int) (mo : Int) : Option (List Int) := findB (ansN l (stQ l) (quQ l) (rsQ vw l)) mo ((rsQ vw l).length + 1)
def aqC (vw : List ClaimM) (l : List Int) (mo : Int) : Int := if viewF vw = 0 then (if inB mo 60 300 = true then (if 12 ≤ l.length then (match aqO vw l mo with
  | some _ => 0
  | none => 2) else 2) else 3) else viewF vw
def aqB (vw : List ClaimM) (l : List Int) (mo : Int) : List Int := if viewF vw = 0 ∧ inB mo 60 300 = true ∧ 12 ≤ l.length then (aqO vw l mo).getD [] else []
theorem aq_view {vw : List ClaimM} {l : List Int} {mo : Int} (h : ¬ viewF vw = 0) : aqC vw l mo = viewF vw ∧ aqB vw l mo = [] := ⟨if_neg h, if_neg fun x => h x.1⟩
theorem aq_most {vw : List ClaimM} {l : List Int} {mo : Int} (h : viewF vw = 0) (h2 : inB mo 60 300 = false) : aqC vw l mo = 3 ∧ aqB vw l mo = [] := by
  constructor
  · unfold aqC; rw [if_pos h, if_neg (by simp [h2])]
  · unfold aqB; rw [if_neg (fun x => by simp [h2] at x)]
theorem aq_few {vw : List ClaimM} {l : List Int} {mo : Int} (h : viewF vw = 0) (h2 : inB mo 60 300 = true) (h3 : ¬ 12 ≤ l.length) : aqC vw l mo = 2 ∧ aqB vw l mo = [] := by
  constructor
  · unfold aqC; rw [if_pos h, if_pos h2, if_neg h3]
  · unfold aqB; rw [if_neg (fun x => h3 x.2.2)]
theorem aq_some {vw : List ClaimM} {l : List Int} {mo : Int} (h : viewF vw = 0) (h2 : inB mo 60 300 = true) (h3 : 12 ≤ l.length) {o : List Int} (ho : aqO vw l mo = some o) : aqC vw l mo = 0 ∧ aqB vw l mo = o := by
  constructor
  · unfold aqC; rw [if_pos h, if_pos h2, if_pos h3, ho]
  · unfold aqB; rw [if_pos ⟨h, h2, h3⟩, ho]; rfl
theorem aq_none {vw : List ClaimM} {l : List Int} {mo : Int} (h : viewF vw = 0) (h2 : inB mo 60 300 = true) (h3 : 12 ≤ l.length) (ho : aqO vw l mo = none) : aqC vw l mo = 2 ∧ aqB vw l mo = [] := by
  constructor
  · unfold aqC; rw [if_pos h, if_pos h2, if_pos h3, ho]
  · unfold aqB; rw [if_pos ⟨h, h2, h3⟩, ho]; rfl
theorem recs_ok {vw : List ClaimM} (h : viewF vw = 0) {sv t : Int} (htt : t = 1 ∨ t = 33) : ∀ r ∈ recsL vw sv t, recOk r := by
  intro r hr
  obtain ⟨c, hc1, rfl⟩ := List.mem_map.1 hr
  have hcf := (viewF_ok h).2 c (List.mem_filter.1 hc1).1
  unfold claimFault claimOk at hcf
  split at hcf
  · rename_i h1
    simp only [Bool.and_eq_true, inB_t] at h1
    refine ⟨htt, by simp only [recOf]; omega, ?_⟩
    simp only [recOf]; split <;> omega
  · omega
theorem typ_or {t : Int} (h : typB t = true) : t = 1 ∨ t = 33 := by simpa [typB] using h
theorem so_is {vw : List ClaimM} {l : List Int} (hb : Eng.Bytes l) : ∃ (i t : Int) (ls : List ByteArray), soR l = .tup [.v (.int .i64 (stQ l)), bytesL (quQ l), .agg [.v (.int .i64 i), textsL ls, .v (.int .i64 t)]] ∧ labsOk ls ∧ (stQ l = 0 → 0 ≤ svOf ls ∧ typB t = true ∧ rsQ vw l = recsL vw (svOf ls) t) ∧ (¬ stQ l = 0 → rsQ vw l = []) := by
  unfold soR stQ quQ rsQ
  cases hqf : qF l with
  | none => exact ⟨0, 0, [], rfl, ⟨by simp, by simp⟩, by simp, fun _ => rfl⟩
  | some z =>
    obtain ⟨i, ls, t⟩ := z
    simp only
    refine ⟨i, t, ls, rfl, (qF_ok hb hqf).1, fun h => ?_, fun h => if_neg h⟩
    rw [if_pos h]
    unfold stF at h
    split at h
    · omega
    · split at h
      · rename_i h1 h2; exact ⟨by omega, h2, rfl⟩
      · omega
theorem rsQ_ok {vw : List ClaimM} {l : List Int} (hb : Eng.Bytes l) (h : viewF vw = 0) : (rsQ vw l).length ≤ 4 ∧ ∀ r ∈ rsQ vw l, recOk r := by
  obtain ⟨i, t, ls, -, -, h0, h1⟩ := so_is (vw := vw) hb
  by_cases hs : stQ l = 0
  · obtain ⟨-, h2, h3⟩ := h0 hs
    rw [h3]
    exact ⟨Nat.le_trans (recsL_len _ _ _) (viewF_ok h).1, recs_ok h (typ_or h2)⟩
  · rw [h1 hs]; exact ⟨by simp, by simp⟩
theorem quQ_len {l : List Int} (hb : Eng.Bytes l) : (quQ l).length ≤ 300 := by
  unfold quQ
  cases hqf : qF l with
  | none => simp
  | some z =>
    obtain ⟨i, ls, t⟩ := z
    have := (qF_ok hb hqf).2.2.2
    simp; omega
theorem stQ_b (l : List Int) : 0 ≤ stQ l ∧ stQ l ≤ 255 := by
  unfold stQ
  split
  · unfold stF; split <;> (try split) <;> omega
  · omega
theorem ansN_ne (l : List Int) (st : Int) (w : List Int) (rs : List RecordM) (n : Nat) : ansN l st w rs n ≠ [] := by unfold ansN ansB; simp
theorem om_made {x : AV} {l w : List Int} {st : Int} {rs : List RecordM} (hX : Dz 12 x (.lst false (rs.map encRecord))) (hwl : w.length ≤ 1000) (hrl : rs.length ≤ 100) (hst : 0 ≤ st ∧ st ≤ 255) (hro : ∀ r ∈ rs, recOk r) (n : Nat) (hn : n ≤ rs.length) (H : Hp) :
    call Tryz.prog cfg0 1 42 [bytesL (l.take 2), .v (.int .i64 st), bytesL w, x, .v (.int .i64 (n : Nat))] H = some (.sl H.g 1 0 (ansN l st w rs n).length, H.new ((ansN l st w rs n).map cell)) := by
  have hp := (pq_imade (l.take 2) w st rs n (by rw [List.length_take]; omega) hwl hrl hn hst hro).2
  have hd : [bytesL (l.take 2), AV.v (.int .i64 st), bytesL w, x, .v (.int .i64 (n : Nat))].mapM (deep H depthD) = some [bytesL (l.take 2), AV.v (.int .i64 st), bytesL w, .lst false (rs.map encRecord), .v (.int .i64 (n : Nat))] :=
    mapM_c ((bytesL_fz 10 _).1 H) (mapM_c rfl (mapM_c ((bytesL_fz 10 _).1 H) (mapM_c (hX.1 H) (mapM_c rfl mapM_n))))
  rw [call_ofO Tryz.func42 rfl ok_imade rfl hd hp]
  exact mat_bytes 10 _ (ansN_ne l st w rs n) H
theorem dz_nilR : Dz 12 (.v (.slice none 0 0)) (.lst false (([] : List RecordM).map encRecord)) := ⟨fun H => rfl, rfl⟩
theorem gO_no {H : Hp} (c : Int) : GivesO (.agg [.v (.int .i64 c), bytesL []]) (.agg [.v (.int .i64 c), .lst false []]) H := ⟨⟨rfl, rfl⟩, own_agg2 ⟨[], rfl, List.nodup_nil⟩⟩
theorem ok_iAnswerQuery : fnOk Tryz.prog cfg0 10 Tryz.f10 = true := by kernel_rfl
theorem pq_iAnswerQuery (vw : List ClaimM) (hv : vw.length ≤ 1048576) (l : List Int) (hb : Eng.Bytes l) (hl : l.length ≤ 1048576) (mo : Int) : pure Tryz.prog cfg0 10 Tryz.f10 [.lst false (vw.map encClaim), bytesL l, .v (.int .i64 mo)] = some (.agg [.v (.int .i64 (aqC vw l mo)), bytesL (aqB vw l mo)], true) ∧ owned Tryz.prog cfg0 10 Tryz.f10 [.lst false (vw.map encClaim), bytesL l, .v (.int .i64 mo)] = some (.agg [.v (.int .i64 (aqC vw l mo)), bytesL (aqB vw l mo)]) := by
  refine both_wp (rs := [.cell 6 29]) rfl rfl ?_
  have hp0 : ∀ b, cfg0.pol 10 b = (if b = 60 then 1 else 0) := fun b => rfl
  have hvf := c_iViewFault vw hv
  by_cases hv0 : viewF vw = 0
  rotate_left
  · obtain ⟨e1, e2⟩ := aq_view (l := l) (mo := mo) hv0
    rw [e1, e2]
    (have hF := an hp0 <| an hvf <| an hv0 <| c_inoBytes; have hc := trivial; repeat' (first | refine wK ?_ | refine wX ?_ | refine rR ?_ | refine rB ?_ ?_ <;> intro ht <;> try simp only [bbs] at ht | refine rG ?_ ?_ <;> intro hc | refine rZ ?_ | refine wQ ?_))
    all_goals try exact False.elim kk
    all_goals exact gO_no _
  cases hmo : inB mo 60 300 with
  | false =>
    obtain ⟨e1, e2⟩ := aq_most (l := l) hv0 hmo
    rw [e1, e2]
    (have hF := an hp0 <| an hvf <| an hv0 <| an c_iin <| an hmo <| c_inoBytes; have hc := trivial; repeat' (first | refine wK ?_ | refine wX ?_ | refine rR ?_ | refine rB ?_ ?_ <;> intro ht <;> try simp only [bbs] at ht | refine rG ?_ ?_ <;> intro hc | refine rZ ?_ | refine wQ ?_))
    all_goals try exact False.elim kk
    all_goals exact gO_no _
  | true =>
  by_cases hl12 : 12 ≤ l.length
  rotate_left
  · obtain ⟨e1, e2⟩ := aq_few hv0 hmo hl12
    have h12I : ((l.length : Nat) : Int) < 12 := by omega
    rw [e1, e2]
    (have hF := an hp0 <| an hvf <| an hv0 <| an c_iin <| an hmo <| an h12I <| c_inoBytes; have hc := trivial; repeat' (first | refine wK ?_ | refine wX ?_ | refine rR ?_ | refine rB ?_ ?_ <;> intro ht <;> try simp only [bbs] at ht | refine rG ?_ ?_ <;> intro hc | refine rZ ?_ | refine wQ ?_))
    all_goals try exact False.elim kk
    all_goals exact gO_no _
  have h12I : ¬ ((l.length : Nat) : Int) < 12 := by omega
  have hso := c_istatusOf l hb hl
  obtain ⟨i, t, ls, hse, hk, hz0, hz1⟩ := so_is (vw := vw) hb
  rw [hse] at hso
  have tx := tx_ok ls
  have bx := by_ok (quQ l)
  obtain ⟨hrl, hro⟩ := rsQ_ok hb hv0
  have hwl := quQ_len hb
  have hst := stQ_b l
  have hO : aqO vw l mo = findB (ansN l (stQ l) (quQ l) (rsQ vw l)) mo ((rsQ vw l).length + 1) := rfl
  (have hF := an hp0 <| an hvf <| an hv0 <| an c_iin <| an hmo <| an h12I <| an hso <| an tx.1 <| an tx.2 <| an bx.1 <| bx.2; have hc := trivial; repeat' ((fail_if_success (first | refine wAt 10 ?_ | refine wAtL 10 ?_)); first | refine wK ?_ | refine wX ?_ | refine rR ?_ | refine rB ?_ ?_ <;> intro ht <;> try simp only [bbs] at ht | refine rG ?_ ?_ <;> intro hc | refine rZ ?_ | refine wQ ?_))
  all_goals try exact False.elim kk
  refine wMid (fun s => s.1 1 = bytesL l ∧ s.1 2 = .v (.int .i64 mo) ∧ s.1 6 = .ptr 0 0 ∧ s.1 8 = .v (.int .i64 (stQ l)) ∧ s.1 9 = bytesL (quQ l) ∧ lenD (some (.slice 86)) (s.1 11) = some (.v (.int .i64 (rsQ vw l).length)) ∧ Dz 12 (s.1 11) (.lst false ((rsQ vw l).map encRecord)) ∧ s.2.h 0 = some [.v (.int .i64 0), .v (.slice none 0 0)] ∧ 0 < s.2.g) ?_ ?_
  · by_cases hs0 : stQ l = 0
    · obtain ⟨s1, s2, s3⟩ := hz0 hs0
      have hsT : (stQ l = 0) = True := eq_true hs0
      have hsv := c_iServiceOf ls (labs_sizes hk)
      have hsvv : svV ls = svOf ls := by unfold svV; rw [if_neg (by omega)]
      rw [hsvv] at hsv
      have hrf := c_iRecordsFor vw hv (svOf ls) t
      rw [rfR_0 (by unfold rfC; rw [if_pos hv0, if_pos ⟨inB_t.2 ⟨s1, sv_le ls⟩, s2⟩])] at hrf
      rw [s3]
      (have hF := an hp0 <| an hsT <| an hsv <| an hrf <| an tx.1 <| tx.2; have hc := trivial; repeat' (first | refine wK ?_ | refine wX ?_ | refine rR ?_ | refine rB ?_ ?_ <;> intro ht <;> try simp only [bbs] at ht | refine rG ?_ ?_ <;> intro hc | refine rZ ?_ | refine wQ ?_))
      all_goals try exact False.elim kk
      show (_ = _) ∧ (_ = _) ∧ (_ = _) ∧ (_ = _) ∧ (_ = _) ∧ (_ = _) ∧ Dz _ _ _ ∧ (_ = _) ∧ (_ < _)
      refine ⟨rfl, rfl, rfl, rfl, rfl, ?_, ?_, rfl, Nat.succ_pos _⟩
      · show some (AV.v (.int .i64 (((recsL vw (svOf ls) t).map encRecord).length : Nat))) = _
        rw [List.length_map]
      · exact Fz.dz (fz_rows (n := 11) (fun k => fzE_Record 10 k) _)
    · have hsT : (stQ l = 0) = False := eq_false hs0
      rw [hz1 hs0]
      (have hF := an hp0 <| hsT; have hc := trivial; repeat' (first | refine wK ?_ | refine wX ?_ | refine rR ?_ | refine rB ?_ ?_ <;> intro ht <;> try simp only [bbs] at ht | refine rG ?_ ?_ <;> intro hc | refine rZ ?_ | refine wQ ?_))
      all_goals try exact False.elim kk
      show (_ = _) ∧ (_ = _) ∧ (_ = _) ∧ (_ = _) ∧ (_ = _) ∧ (_ = _) ∧ Dz _ _ _ ∧ (_ = _) ∧ (_ < _)
      exact ⟨rfl, rfl, rfl, rfl, rfl, rfl, dz_nilR, rfl, Nat.succ_pos _⟩
  rintro ⟨e, H⟩ ⟨h1, h2, h6, h8, h9, h11, hX, hb0, hgg⟩
  simp only at h1 h2 h6 h8 h9 h11 hX hb0 hgg
  show Wp _ _ _ _ _ _
  generalize hXe : e 11 = X at *
  have hmd := om_made (l := l) hX (w := quQ l) (by omega) (by omega) hst hro
  have hone : ((rsQ vw l).length : Int) = (((rsQ vw l).length + 1 : Nat) : Int) - 1 := by omega
  have hsl2 : (2 ≤ l.length) = True := eq_true (by omega)
  generalize hN : (rsQ vw l).length = N at *
  (have hF := an hp0 <| an hXe <| an h11 <| u39; have hc := trivial; repeat' (first | refine wK ?_ | refine wX ?_ | refine rR ?_ | refine rB ?_ ?_ <;> intro ht <;> try simp only [bbs] at ht | refine rG ?_ ?_ <;> intro hc | refine rZ ?_ | refine wQ ?_))
  all_goals try exact False.elim kk
  refine wLoop (fun k s => ∃ (j : Nat) (rem : Nat), j + k = N + 1 ∧ s.1 1 = bytesL l ∧ s.1 2 = .v (.int .i64 mo) ∧ s.1 6 = .ptr 0 0 ∧ s.1 8 = .v (.int .i64 (stQ l)) ∧ s.1 9 = bytesL (quQ l) ∧ s.1 11 = X ∧ s.1 12 = .v (.int .i64 ((rem : Int) - 1)) ∧ (j + rem = N + 1) ∧ (findB (ansN l (stQ l) (quQ l) (rsQ vw l)) mo (N + 1) = findB (ansN l (stQ l) (quQ l) (rsQ vw l)) mo rem) ∧ (s.2.h 0 = some [.v (.int .i64 0), .v (.slice none 0 0)] ∧ 0 < s.2.g)) (fun k s hI => ?_) (N + 1) _ ?_
  · obtain ⟨e, H⟩ := s
    obtain ⟨j, rem, hj, h1, h2, h6, h8, h9, h11, h12, hrem, hfb, hbb⟩ := hI
    simp only at h1 h2 h6 h8 h9 h11 h12 hrem hfb hbb
    obtain ⟨hc0, hg0⟩ := hbb
    cases rem with
    | zero =>
      have hneg : ¬ (0 : Int) ≤ ((0 : Nat) : Int) - 1 := by omega
      rw [hfb] at hO
      obtain ⟨e1, e2⟩ := aq_none hv0 hmo hl12 hO
      rw [e1, e2]
      (have hF := an hp0 <| an h6 <| an h12 <| an hneg <| an hc0 <| c_inoBytes; have hc := trivial; repeat' (first | refine wK ?_ | refine wX ?_ | refine rR ?_ | refine rB ?_ ?_ <;> intro ht <;> try simp only [bbs] at ht | refine rG ?_ ?_ <;> intro hc | refine rZ ?_ | refine wQ ?_))
      all_goals try exact False.elim kk
      all_goals exact gO_no _
    | succ n =>
      have h12' : e 12 = .v (.int .i64 (n : Int)) := by rw [h12]; congr 2; omega
      have hpos : (0 : Int) ≤ (n : Int) := by omega
      have hm1 := hmd n (by omega)
      have wm : IntKind.wrap .i64 ((n : Int) - 1) = (n : Int) - 1 := wrap_i64 (by omega) (by omega)
      have hfs : findB (ansN l (stQ l) (quQ l) (rsQ vw l)) mo (n + 1) = if ((ansN l (stQ l) (quQ l) (rsQ vw l) n).length : Int) ≤ mo then some (ansN l (stQ l) (quQ l) (rsQ vw l) n) else findB (ansN l (stQ l) (quQ l) (rsQ vw l)) mo n := rfl
      rw [hfs] at hfb
      generalize ansN l (stQ l) (quQ l) (rsQ vw l) n = A at *
      have g0 : (0 = H.g) = False := eq_false (by omega)
      by_cases hle : (A.length : Int) ≤ mo
      · rw [if_pos hle] at hfb
        rw [hfb] at hO
        obtain ⟨e1, e2⟩ := aq_some hv0 hmo hl12 hO
        rw [e1, e2]
        (have hF := an hp0 <| an h1 <| an h2 <| an h6 <| an h8 <| an h9 <| an h11 <| an h12' <| an hpos <| an hsl2 <| an Nat.zero_le <| an Nat.sub_zero <| an hm1 <| an hle <| an hc0 <| g0; have hc := trivial; repeat' (first | refine wK ?_ | refine wX ?_ | refine rR ?_ | refine rB ?_ ?_ <;> intro ht <;> try simp only [bbs] at ht | refine rG ?_ ?_ <;> intro hc | refine rZ ?_ | refine wQ ?_))
        all_goals try exact False.elim kk
        all_goals exact gO_res (RAcc.setOff (racc_new (l := A) H) (fun b' o' n' he => by injection he with e1; omega) _)
      · rw [if_neg hle] at hfb
        (have hF := an hp0 <| an h1 <| an h2 <| an h6 <| an h8 <| an h9 <| an h11 <| an h12' <| an hpos <| an hsl2 <| an Nat.zero_le <| an Nat.sub_zero <| an hm1 <| an hle <| an hc0 <| an g0 <| wm; have hc := trivial; repeat' (first | refine wK ?_ | refine wX ?_ | refine rR ?_ | refine rB ?_ ?_ <;> intro ht <;> try simp only [bbs] at ht | refine rG ?_ ?_ <;> intro hc | refine rZ ?_ | refine wQ ?_))
        all_goals try exact False.elim kk
        have hS := an h1 <| an h2 <| an h6 <| an h8 <| an h9 <| an h11 <| h12; refine ⟨_, Nat.sub_lt (by omega) Nat.one_pos, j + 1, n, by omega, sl, sl, sl, sl, sl, sl, sl, ?_⟩
        exact ⟨by omega, hfb, by rw [Hp.new_h, if_neg (by omega)]; exact hc0, by rw [Hp.new_g]; omega⟩
  · refine ⟨0, N + 1, by omega, ?_, ?_, ?_, ?_, ?_, ?_, ?_, by omega, rfl, hb0, hgg⟩
    · simp only [upd_eq, put, Nat.reduceEqDiff, if_false, if_true]; exact h1
    · simp only [upd_eq, put, Nat.reduceEqDiff, if_false, if_true]; exact h2
    · simp only [upd_eq, put, Nat.reduceEqDiff, if_false, if_true]; exact h6
    · simp only [upd_eq, put, Nat.reduceEqDiff, if_false, if_true]; exact h8
    · simp only [upd_eq, put, Nat.reduceEqDiff, if_false, if_true]; exact h9
    · simp only [upd_eq, put, Nat.reduceEqDiff, if_false, if_true]; exact hXe
    · simp only [upd_eq, put, Nat.reduceEqDiff, if_false, if_true]; rw [← hone]
theorem c_iAnswerQuery (vw : List ClaimM) (hv : vw.length ≤ 1048576) (l : List Int) (hb : Eng.Bytes l) (hl : l.length ≤ 1048576) (mo : Int) : ∀ H, call Tryz.prog cfg0 0 10 [.lst false (vw.map encClaim), bytesL l, .v (.int .i64 mo)] H = some (.agg [.v (.int .i64 (aqC vw l mo)), bytesL (aqB vw l mo)], H) :=
  call_fz Tryz.func10 rfl ok_iAnswerQuery rfl (by simp only [fz_cons, fz_nil, go_sem, and_self]) (pq_iAnswerQuery vw hv l hb hl mo).1
end
end Go.Proofs.YtnejoidfbgklbaaGreatDoor
namespace Go.Proofs.YtnejoidfbgklbaaGreatDoor
open Go Go.RowKit Go.Proofs.YtnejoidfbgklbaaGreatDoor.Eng
set_option linter.unusedSimpArgs false
set_option linter.unusedVariables false
set_option maxRecDepth 100000
set_option maxHeartbeats 2000000
noncomputable section
theorem qu_is (l : List Int) : quQ l = if stQ l = 1 then [] else l.drop 12 := by
  unfold quQ stQ
  cases qF l with
  | none => simp
  | some z =>
    obtain ⟨i, ls, t⟩ := z
    simp only
    rw [if_neg]
    unfold stF
    split <;> (try split) <;> omega
theorem take_two {l : List Int} (h : 2 ≤ l.length) : ∃ a b, l.take 2 = [a, b] := by
  match l, h with
  | a :: b :: r, _ => exact ⟨a, b, rfl⟩
theorem dz_nilB : Dz 12 (.lst true []) (bytesL []) := ⟨fun H => rfl, rfl⟩
theorem om_ans {y : AV} {l w : List Int} {st a b : Int} {rs : List RecordM} (hy : Dz 12 y (bytesL w)) (h2 : l.take 2 = [a, b]) (hwl : w.length ≤ 1000) (hrl : rs.length ≤ 100) (hst : 0 ≤ st ∧ st ≤ 255) (hro : ∀ r ∈ rs, recOk r) (n : Nat) (hn : n ≤ rs.length) (H : Hp) :
    call Tryz.prog cfg0 1 48 [bytesL [a, b], .v (.int .i64 st), .v (.bool (decide (n < rs.length))), y, .lst false ((rs.take n).map encRecord)] H = some (.sl H.g 1 0 (ansN l st w rs n).length, H.new ((ansN l st w rs n).map cell)) := by
  have hp := (pq_sl10Answer a b w st (decide (n < rs.length)) (rs.take n) hwl (by rw [List.length_take]; omega) hst (fun r hr => hro r (List.mem_of_mem_take hr))).2
  have hd : [bytesL [a, b], AV.v (.int .i64 st), .v (.bool (decide (n < rs.length))), y, .lst false ((rs.take n).map encRecord)].mapM (deep H depthD) = some [bytesL [a, b], AV.v (.int .i64 st), .v (.bool (decide (n < rs.length))), bytesL w, .lst false ((rs.take n).map encRecord)] :=
    mapM_c ((bytesL_fz 10 _).1 H) (mapM_c rfl (mapM_c rfl (mapM_c (hy.1 H) (mapM_c ((fz_rs _).1 H) mapM_n))))
  have e : ansB [a, b] st (decide (n < rs.length)) w (rs.take n) = ansN l st w rs n := by unfold ansN; rw [h2]
  rw [call_ofO Tryz.func48 rfl ok_sl10Answer rfl hd hp, e]
  exact mat_bytes 10 _ (ansN_ne l st w rs n) H
theorem gO_noS {H : Hp} (c : Int) : GivesO (.agg [.v (.int .i64 c), bytesL []]) (.agg [.v (.int .i64 c), .v (.slice none 0 0)]) H := gO_res (l := []) RAcc.nil
theorem ok_sAnswerQuery : fnOk Tryz.prog cfg0 14 Tryz.f14 = true := by kernel_rfl
theorem pq_sAnswerQuery (vw : List ClaimM) (hv : vw.length ≤ 1048576) (l : List Int) (hb : Eng.Bytes l) (hl : l.length ≤ 1048576) (mo : Int) : pure Tryz.prog cfg0 14 Tryz.f14 [.lst false (vw.map encClaim), bytesL l, .v (.int .i64 mo)] = some (.agg [.v (.int .i64 (aqC vw l mo)), bytesL (aqB vw l mo)], true) ∧ owned Tryz.prog cfg0 14 Tryz.f14 [.lst false (vw.map encClaim), bytesL l, .v (.int .i64 mo)] = some (.agg [.v (.int .i64 (aqC vw l mo)), bytesL (aqB vw l mo)]) := by
  refine both_wp (rs := [.cell 6 29]) rfl rfl ?_
  have hp0 : ∀ b, cfg0.pol 14 b = (if b = 55 then 1 else 0) := fun b => rfl
  have hvf := c_sViewFault vw hv
  by_cases hv0 : viewF vw = 0
  rotate_left
  · obtain ⟨e1, e2⟩ := aq_view (l := l) (mo := mo) hv0
    rw [e1, e2]
    (have hF := an hp0 <| an hvf <| hv0; have hc := trivial; repeat' (first | refine wK ?_ | refine wX ?_ | refine rR ?_ | refine rB ?_ ?_ <;> intro ht <;> try simp only [bbs] at ht | refine rG ?_ ?_ <;> intro hc | refine rZ ?_ | refine wQ ?_))
    all_goals try exact False.elim kk
    all_goals exact gO_noS _
  cases hmo : inB mo 60 300 with
  | false =>
    obtain ⟨e1, e2⟩ := aq_most (l := l) hv0 hmo
    rw [e1, e2]
    (have hF := an hp0 <| an hvf <| an hv0 <| an c_sl1In <| hmo; have hc := trivial; repeat' (first | refine wK ?_ | refine wX ?_ | refine rR ?_ | refine rB ?_ ?_ <;> intro ht <;> try simp only [bbs] at ht | refine rG ?_ ?_ <;> intro hc | refine rZ ?_ | refine wQ ?_))
    all_goals try exact False.elim kk
    all_goals exact gO_noS _
  | true =>
  by_cases hl12 : 12 ≤ l.length
  rotate_left
  · obtain ⟨e1, e2⟩ := aq_few hv0 hmo hl12
    have h12I : ((l.length : Nat) : Int) < 12 := by omega
    rw [e1, e2]
    (have hF := an hp0 <| an hvf <| an hv0 <| an c_sl1In <| an hmo <| h12I; have hc := trivial; repeat' (first | refine wK ?_ | refine wX ?_ | refine rR ?_ | refine rB ?_ ?_ <;> intro ht <;> try simp only [bbs] at ht | refine rG ?_ ?_ <;> intro hc | refine rZ ?_ | refine wQ ?_))
    all_goals try exact False.elim kk
    all_goals exact gO_noS _
  have h12I : ¬ ((l.length : Nat) : Int) < 12 := by omega
  have hso := c_sl10Status vw hv (viewF_meta hv0) l hb hl
  obtain ⟨hrl, hro⟩ := rsQ_ok hb hv0
  have hwl := quQ_len hb
  have hst := stQ_b l
  have hO : aqO vw l mo = findB (ansN l (stQ l) (quQ l) (rsQ vw l)) mo ((rsQ vw l).length + 1) := rfl
  obtain ⟨a, b, h2t⟩ := take_two (l := l) (by omega)
  have hqu := qu_is l
  (have hF := an hp0 <| an hvf <| an hv0 <| an c_sl1In <| an hmo <| an h12I <| hso; have hc := trivial; repeat' ((fail_if_success (first | refine wAt 10 ?_ | refine wAtL 10 ?_)); first | refine wK ?_ | refine wX ?_ | refine rR ?_ | refine rB ?_ ?_ <;> intro ht <;> try simp only [bbs] at ht | refine rG ?_ ?_ <;> intro hc | refine rZ ?_ | refine wQ ?_))
  all_goals try exact False.elim kk
  refine wMid (fun s => s.1 1 = bytesL l ∧ s.1 2 = .v (.int .i64 mo) ∧ s.1 6 = .ptr 0 0 ∧ s.1 8 = .v (.int .i64 (stQ l)) ∧ s.1 9 = .lst false ((rsQ vw l).map encRecord) ∧ Dz 12 (s.1 10) (bytesL (quQ l)) ∧ s.2.h 0 = some [.v (.int .i64 0), .v (.slice none 0 0)] ∧ 0 < s.2.g) ?_ ?_
  · by_cases hs0 : stQ l = 1
    · have hsT : (stQ l = 1) = True := eq_true hs0
      rw [hqu, if_pos hs0]
      (have hF := an hp0 <| an hsT <| not_true_eq_false; have hc := trivial; repeat' (first | refine wK ?_ | refine wX ?_ | refine rR ?_ | refine rB ?_ ?_ <;> intro ht <;> try simp only [bbs] at ht | refine rG ?_ ?_ <;> intro hc | refine rZ ?_ | refine wQ ?_))
      all_goals try exact False.elim kk
      show (_ = _) ∧ (_ = _) ∧ (_ = _) ∧ (_ = _) ∧ (_ = _) ∧ Dz _ _ _ ∧ (_ = _) ∧ (_ < _)
      exact ⟨rfl, rfl, rfl, rfl, rfl, dz_nilB, rfl, Nat.succ_pos _⟩
    · have hsT : (stQ l = 1) = False := eq_false hs0
      have hsl : (12 ≤ l.length) = True := eq_true hl12
      rw [hqu, if_neg hs0]
      (have hF := an hp0 <| an hsT <| hsl; have hc := trivial; repeat' (first | refine wK ?_ | refine wX ?_ | refine rR ?_ | refine rB ?_ ?_ <;> intro ht <;> try simp only [bbs] at ht | refine rG ?_ ?_ <;> intro hc | refine rZ ?_ | refine wQ ?_))
      all_goals try exact False.elim kk
      show (_ = _) ∧ (_ = _) ∧ (_ = _) ∧ (_ = _) ∧ (_ = _) ∧ Dz _ _ _ ∧ (_ = _) ∧ (_ < _)
      exact ⟨rfl, rfl, rfl, rfl, rfl, Fz.dz (bytesL_fz 10 _), rfl, Nat.succ_pos _⟩
  rintro ⟨e, H⟩ ⟨h1, h2, h6, h8, h9, hY, hb0, hgg⟩
  simp only at h1 h2 h6 h8 h9 hY hb0 hgg
  show Wp _ _ _ _ _ _
  generalize hYe : e 10 = Y at *
  have hmd := om_ans (l := l) hY h2t (w := quQ l) (by omega) (by omega) hst hro
  have hone : ((rsQ vw l).length : Int) = (((rsQ vw l).length + 1 : Nat) : Int) - 1 := by omega
  have hsl2 : (2 ≤ l.length) = True := eq_true (by omega)
  generalize hN : (rsQ vw l).length = N at *
  (have hF := an hp0 <| an h9 <| an @List.length_map.{0,0} <| hN; have hc := trivial; repeat' (first | refine wK ?_ | refine wX ?_ | refine rR ?_ | refine rB ?_ ?_ <;> intro ht <;> try simp only [bbs] at ht | refine rG ?_ ?_ <;> intro hc | refine rZ ?_ | refine wQ ?_))
  all_goals try exact False.elim kk
  refine wLoop (fun k s => ∃ (j : Nat) (rem : Nat), j + k = N + 1 ∧ s.1 1 = bytesL l ∧ s.1 2 = .v (.int .i64 mo) ∧ s.1 6 = .ptr 0 0 ∧ s.1 8 = .v (.int .i64 (stQ l)) ∧ s.1 9 = .lst false ((rsQ vw l).map encRecord) ∧ s.1 10 = Y ∧ s.1 11 = .v (.int .i64 ((rem : Int) - 1)) ∧ (j + rem = N + 1) ∧ (findB (ansN l (stQ l) (quQ l) (rsQ vw l)) mo (N + 1) = findB (ansN l (stQ l) (quQ l) (rsQ vw l)) mo rem) ∧ (s.2.h 0 = some [.v (.int .i64 0), .v (.slice none 0 0)] ∧ 0 < s.2.g)) (fun k s hI => ?_) (N + 1) _ ?_
  · obtain ⟨e, H⟩ := s
    obtain ⟨j, rem, hj, h1, h2, h6, h8, h9, h10, h11, hrem, hfb, hbb⟩ := hI
    simp only at h1 h2 h6 h8 h9 h10 h11 hrem hfb hbb
    obtain ⟨hc0, hg0⟩ := hbb
    cases rem with
    | zero =>
      have hneg : ¬ (0 : Int) ≤ ((0 : Nat) : Int) - 1 := by omega
      rw [hfb] at hO
      obtain ⟨e1, e2⟩ := aq_none hv0 hmo hl12 hO
      rw [e1, e2]
      (have hF := an hp0 <| an h6 <| an h11 <| an hneg <| hc0; have hc := trivial; repeat' (first | refine wK ?_ | refine wX ?_ | refine rR ?_ | refine rB ?_ ?_ <;> intro ht <;> try simp only [bbs] at ht | refine rG ?_ ?_ <;> intro hc | refine rZ ?_ | refine wQ ?_))
      all_goals try exact False.elim kk
      all_goals exact gO_noS _
    | succ n =>
      have h11' : e 11 = .v (.int .i64 (n : Int)) := by rw [h11]; congr 2; omega
      have hpos : (0 : Int) ≤ (n : Int) := by omega
      have hm1 := hmd n (by omega)
      have hnN : (n ≤ N) = True := eq_true (by omega)
      have hdec : decide ((n : Int) < (N : Int)) = decide (n < N) := decide_eq_decide.2 (by omega)
      have wm : IntKind.wrap .i64 ((n : Int) - 1) = (n : Int) - 1 := wrap_i64 (by omega) (by omega)
      have hfs : findB (ansN l (stQ l) (quQ l) (rsQ vw l)) mo (n + 1) = if ((ansN l (stQ l) (quQ l) (rsQ vw l) n).length : Int) ≤ mo then some (ansN l (stQ l) (quQ l) (rsQ vw l) n) else findB (ansN l (stQ l) (quQ l) (rsQ vw l)) mo n := rfl
      rw [hfs] at hfb
      generalize ansN l (stQ l) (quQ l) (rsQ vw l) n = A at *
      have g0 : (0 = H.g) = False := eq_false (by omega)
      by_cases hle : (A.length : Int) ≤ mo
      · rw [if_pos hle] at hfb
        rw [hfb] at hO
        obtain ⟨e1, e2⟩ := aq_some hv0 hmo hl12 hO
        rw [e1, e2]
        (have hF := an hp0 <| an h1 <| an h2 <| an h6 <| an h8 <| an h9 <| an h10 <| an h11' <| an hpos <| an hsl2 <| an h2t <| an hnN <| an hN <| an hdec <| an Nat.zero_le <| an Nat.sub_zero <| an @List.length_map.{0,0} <| an hm1 <| an hle <| an hc0 <| g0; have hc := trivial; repeat' (first | refine wK ?_ | refine wX ?_ | refine rR ?_ | refine rB ?_ ?_ <;> intro ht <;> try simp only [bbs] at ht | refine rG ?_ ?_ <;> intro hc | refine rZ ?_ | refine wQ ?_))
        all_goals try exact False.elim kk
        all_goals exact gO_res (RAcc.setOff (racc_new (l := A) H) (fun b' o' n' he => by injection he with e1; omega) _)
      · rw [if_neg hle] at hfb
        (have hF := an hp0 <| an h1 <| an h2 <| an h6 <| an h8 <| an h9 <| an h10 <| an h11' <| an hpos <| an hsl2 <| an h2t <| an hnN <| an hN <| an hdec <| an Nat.zero_le <| an Nat.sub_zero <| an @List.length_map.{0,0} <| an hm1 <| an hle <| an hc0 <| an g0 <| wm; have hc := trivial; repeat' (first | refine wK ?_ | refine wX ?_ | refine rR ?_ | refine rB ?_ ?_ <;> intro ht <;> try simp only [bbs] at ht | refine rG ?_ ?_ <;> intro hc | refine rZ ?_ | refine wQ ?_))
        all_goals try exact False.elim kk
        have hS := an h1 <| an h2 <| an h6 <| an h8 <| an h9 <| an h10 <| h11; refine ⟨_, Nat.sub_lt (by omega) Nat.one_pos, j + 1, n, by omega, sl, sl, sl, sl, sl, sl, sl, ?_⟩
        exact ⟨by omega, hfb, by rw [Hp.new_h, if_neg (by omega)]; exact hc0, by rw [Hp.new_g]; omega⟩
  · refine ⟨0, N + 1, by omega, ?_, ?_, ?_, ?_, ?_, ?_, ?_, by omega, rfl, hb0, hgg⟩
    · simp only [upd_eq, put, Nat.reduceEqDiff, if_false, if_true]; exact h1
    · simp only [upd_eq, put, Nat.reduceEqDiff, if_false, if_true]; exact h2
    · simp only [upd_eq, put, Nat.reduceEqDiff, if_false, if_true]; exact h6
    · simp only [upd_eq, put, Nat.reduceEqDiff, if_false, if_true]; exact h8
    · simp only [upd_eq, put, Nat.reduceEqDiff, if_false, if_true]; exact h9
    · simp only [upd_eq, put, Nat.reduceEqDiff, if_false, if_true]; exact hYe
    · simp only [upd_eq, put, Nat.reduceEqDiff, if_false, if_true]; rw [← hone]
theorem c_sAnswerQuery (vw : List ClaimM) (hv : vw.length ≤ 1048576) (l : List Int) (hb : Eng.Bytes l) (hl : l.length ≤ 1048576) (mo : Int) : ∀ H, call Tryz.prog cfg0 0 14 [.lst false (vw.map encClaim), bytesL l, .v (.int .i64 mo)] H = some (.agg [.v (.int .i64 (aqC vw l mo)), bytesL (aqB vw l mo)], H) :=
  call_fz Tryz.func14 rfl ok_sAnswerQuery rfl (by simp only [fz_cons, fz_nil, go_sem, and_self]) (pq_sAnswerQuery vw hv l hb hl mo).1
theorem o_sAnswerQuery (vw : List ClaimM) (hv : vw.length ≤ 1048576) (l : List Int) (hb : Eng.Bytes l) (hl : l.length ≤ 1048576) (mo : Int) : ∀ H, call Tryz.prog cfg0 1 14 [.lst false (vw.map encClaim), bytesL l, .v (.int .i64 mo)] H = mat depthD (.agg [.v (.int .i64 (aqC vw l mo)), bytesL (aqB vw l mo)]) H := fun H =>
  call_ofO Tryz.func14 rfl ok_sAnswerQuery rfl (mapM_self fun x hx => ((show ∀ x ∈ ([.lst false (vw.map encClaim), bytesL l, .v (.int .i64 mo)] : List AV), Fz depthD x by simp only [fz_cons, fz_nil, go_sem, and_self]) x hx).1 H) (pq_sAnswerQuery vw hv l hb hl mo).2

end
end Go.Proofs.YtnejoidfbgklbaaGreatDoor
