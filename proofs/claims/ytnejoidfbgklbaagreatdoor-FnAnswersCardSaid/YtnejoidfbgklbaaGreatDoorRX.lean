/- What an answer's bytes tell: records, one behind the other. Contracts: records read one by one, the reference's side; prefixes. Contracts: a record read, the reference's side. What an answer is, as the program and as the reference find it: the same. -/
import Derived.Test.YtnejoidfbgklbaaGreatDoorNE
namespace Go.Proofs.YtnejoidfbgklbaaGreatDoor
open Go Go.RowKit Go.Proofs.YtnejoidfbgklbaaGreatDoor.Eng
set_option linter.unusedSimpArgs false
set_option linter.unusedVariables false
noncomputable section
def num1 (l : List Int) (p : Nat) : Int := (readWord l p 1).2
def num2n (l : List Int) (p : Nat) : Int := (readWord l p 2).2
theorem num2n_is (l : List Int) (p : Nat) : num2 l (p : Int) = num2n l p := by unfold num2 num2n; rw [Int.toNat_natCast]
theorem num1_at {l : List Int} (hb : Eng.Bytes l) {p : Nat} {z : Int} (h : l[p]? = some z) : num1 l p = z := by
  have hlt := (List.getElem?_eq_some_iff.1 h).1
  have hz := hb z (List.mem_of_getElem? h)
  have e : (l.drop p).take 1 = [z] := by
    rw [List.drop_eq_getElem_cons hlt, (List.getElem?_eq_some_iff.1 h).2]; rfl
  unfold num1 readWord
  rw [if_pos (by omega), e, show rdN [z] = z by simp [rdN], if_pos (by omega)]
theorem num1_no {l : List Int} {p : Nat} (h : l.length ≤ p) : num1 l p = 0 := by unfold num1 readWord; rw [if_neg (by omega)]
theorem num1_b {l : List Int} (hb : Eng.Bytes l) (p : Nat) : 0 ≤ num1 l p ∧ num1 l p ≤ 255 := by
  by_cases h : p < l.length
  · rw [num1_at hb (z := l[p]) (by simp [h])]; exact hb _ (List.getElem_mem h)
  · rw [num1_no (by omega)]; omega
theorem num2n_at {l : List Int} (hb : Eng.Bytes l) {p : Nat} {y z : Int} (h : (l.drop p).take 2 = [y, z]) : num2n l p = y * 256 + z := by
  have hlen : p + 2 ≤ l.length := by have := congrArg List.length h; simp at this; omega
  have hm : ∀ x ∈ [y, z], 0 ≤ x ∧ x ≤ 255 := fun x hx => hb x (List.mem_of_mem_drop (List.mem_of_mem_take (h ▸ hx)))
  have hy := hm y (by simp)
  have hz := hm z (by simp)
  have e : rdN [y, z] = y * 256 + z := by simp [rdN]
  unfold num2n readWord
  rw [if_pos hlen, h, e, if_pos (by omega)]
theorem num2n_b {l : List Int} (hb : Eng.Bytes l) (p : Nat) : 0 ≤ num2n l p ∧ num2n l p ≤ 65535 := by rw [← num2n_is]; exact num2_b hb _
theorem rw_drop (l : List Int) (p a m : Nat) (h : p ≤ l.length) : readWord (l.drop p) a m = readWord l (p + a) m := by
  unfold readWord
  rw [List.drop_drop, List.length_drop]
  by_cases hh : p + a + m ≤ l.length
  · rw [if_pos hh, if_pos (by omega)]
  · rw [if_neg hh, if_neg (by omega)]
/-- The record of a kind at a place. -/
def recAt (l : List Int) (p : Nat) (k : Int) : RecordM := if k = 1 then ⟨1, num1 l (p + 15), 0⟩ else ⟨k, num1 l (p + 20) - 48, num2n l (p + 16)⟩
def preB (a b : List Int) : Bool := decide (b.length ≤ a.length) && decide (a.take b.length = b)
def okAt (l : List Int) (p : Nat) (k : Int) : Bool := inB (recAt l p k).Node 0 3 && preB (l.drop p) (recB (recAt l p k))
def lastN (rs : List RecordM) : Int := match rs.getLast? with
  | some r => r.Node
  | none => -1
def rdR (l : List Int) (k : Int) : Nat → Nat → List RecordM → Option (List RecordM)
  | 0, _, _ => none
  | f + 1, p, acc => if l.length ≤ p then some acc else if typB k = true ∧ okAt l p k = true ∧ lastN acc < (recAt l p k).Node then rdR l k f (p + (recB (recAt l p k)).length) (acc ++ [recAt l p k]) else none
theorem recAt_ok {l : List Int} (hb : Eng.Bytes l) {p : Nat} {k : Int} (hk : typB k = true) (h : inB (recAt l p k).Node 0 3 = true) : recOk (recAt l p k) := by
  have hn := inB_t.1 h
  have ht2 := typ_or hk
  unfold recAt at *
  by_cases h1 : k = 1
  · rw [if_pos h1] at *
    exact ⟨.inl rfl, hn, by simp⟩
  · rw [if_neg h1] at *
    exact ⟨.inr (by simp only; omega), hn, num2n_b hb _⟩
theorem lastN_snoc (rs : List RecordM) (r : RecordM) : lastN (rs ++ [r]) = r.Node := by unfold lastN; simp
/-- How the reference reads one. -/
def bkT (l : List Int) (p : Nat) : Int := num2n l (p + 2)
def bkRec (l : List Int) (p : Nat) : RecordM := if l.length < p + 16 then ⟨0, 0, 0⟩ else if bkT l p = 33 then (if l.length < p + 22 then ⟨33, 0, 0⟩ else ⟨33, num1 l (p + 20) - 48, num2n l (p + 16)⟩) else ⟨bkT l p, num1 l (p + 15), 0⟩
def bkW (l : List Int) (p : Nat) : Nat := if bkT l p = 33 then 22 else 16
def bkOk (l : List Int) (p : Nat) : Bool := decide (p + 16 ≤ l.length) && (decide (p + bkW l p ≤ l.length) && (typB (bkT l p) && (inB (bkRec l p).Node 0 3 && decide (recB (bkRec l p) = (l.drop p).take (bkW l p)))))
theorem bk_rec {l : List Int} {p : Nat} (h : p + 16 ≤ l.length) (h2 : p + bkW l p ≤ l.length) (hk : typB (bkT l p) = true) : bkRec l p = recAt l p (bkT l p) := by
  unfold bkRec recAt
  rw [if_neg (by omega)]
  unfold bkW at h2
  by_cases h33 : bkT l p = 33
  · rw [if_pos h33] at *
    rw [if_neg (by omega), if_neg (by omega), h33]
  · have h1 : bkT l p = 1 := by rcases typ_or hk with h | h <;> omega
    rw [if_neg h33, if_pos h1, h1]
theorem recW {r : RecordM} : (recB r).length = if r.Type_ = 1 then 16 else 22 := recB_len
theorem recAt_ty {l : List Int} {p : Nat} {k : Int} : (recAt l p k).Type_ = k := by
  unfold recAt
  split
  · rename_i h; exact h.symm
  · rfl
theorem recB_ty (r : RecordM) : ((recB r).drop 2).take 2 = [0, r.Type_] := by unfold recB; split <;> rfl
/-- Both ways of reading one agree. -/
theorem bk_ok {l : List Int} (hb : Eng.Bytes l) {p : Nat} {k : Int} : (bkOk l p = true ∧ bkT l p = k) ↔ (typB k = true ∧ okAt l p k = true) := by
  constructor
  · rintro ⟨h, rfl⟩
    simp only [bkOk, Bool.and_eq_true, decide_eq_true_eq] at h
    obtain ⟨h1, h2, h3, h4, h5⟩ := h
    have e := bk_rec h1 h2 h3
    rw [e] at h4 h5
    refine ⟨h3, ?_⟩
    have hw : bkW l p = (recB (recAt l p (bkT l p))).length := by
      rw [recW, recAt_ty]; unfold bkW
      rcases typ_or h3 with h | h <;> simp [h]
    rw [hw] at h5 h2
    simp only [okAt, preB, Bool.and_eq_true, decide_eq_true_eq]
    exact ⟨h4, by rw [List.length_drop]; omega, h5.symm⟩
  · rintro ⟨h3, h⟩
    simp only [okAt, preB, Bool.and_eq_true, decide_eq_true_eq] at h
    obtain ⟨h4, h5, h6⟩ := h
    rw [List.length_drop] at h5
    have hty := typ_or h3
    have hw := recW (r := recAt l p k)
    rw [recAt_ty] at hw
    have hT : bkT l p = k := by
      have e : (((l.drop p).take (recB (recAt l p k)).length).drop 2).take 2 = ((recB (recAt l p k)).drop 2).take 2 := by rw [h6]
      rw [recB_ty, recAt_ty, List.drop_take, List.take_take, List.drop_drop] at e
      have hm : min 2 ((recB (recAt l p k)).length - 2) = 2 := by rw [hw]; split <;> rfl
      rw [hm] at e
      have e2 : (l.drop (p + 2)).take 2 = [0, k] := e
      unfold bkT
      rw [num2n_at hb e2]; omega
    subst hT
    have hw2 : bkW l p = (recB (recAt l p (bkT l p))).length := by
      rw [hw]; unfold bkW
      rcases hty with h | h <;> simp [h]
    have h16 : 16 ≤ (recB (recAt l p (bkT l p))).length := by rw [hw]; split <;> omega
    have h1 : p + 16 ≤ l.length := by omega
    have h2 : p + bkW l p ≤ l.length := by omega
    have e := bk_rec h1 h2 h3
    refine ⟨?_, rfl⟩
    simp only [bkOk, Bool.and_eq_true, decide_eq_true_eq]
    rw [e]
    exact ⟨h1, h2, h3, h4, by rw [hw2]; exact h6.symm⟩
end
end Go.Proofs.YtnejoidfbgklbaaGreatDoor
namespace Go.Proofs.YtnejoidfbgklbaaGreatDoor
open Go Go.RowKit Go.Proofs.YtnejoidfbgklbaaGreatDoor.Eng
set_option linter.unusedSimpArgs false
set_option linter.unusedVariables false
set_option maxRecDepth 100000
set_option maxHeartbeats 2000000
noncomputable section
theorem ok_bHasPrefix : fnOk Tryz.prog cfg0 50 Tryz.f50 = true := by kernel_rfl
theorem p_bHasPrefix (a b : List Int) (ha : Eng.Bytes a) (hb : Eng.Bytes b) : pure Tryz.prog cfg0 50 Tryz.f50 [bytesL a, bytesL b] = some (.v (.bool (preB a b)), true) := by
  refine pure_wp (rs := [.tmp 4]) rfl rfl ?_
  have hp0 : ∀ b, cfg0.pol 50 b = 0 := fun b => rfl
  by_cases h : b.length ≤ a.length
  · have hI : (b.length : Int) ≤ (a.length : Int) := by omega
    have hsl : (b.length ≤ a.length) = True := eq_true h
    have hE := c_bEqual (a.take b.length) b (fun z hz => ha z (List.mem_of_mem_take hz)) hb
    rw [show preB a b = decide (a.take b.length = b) by unfold preB; rw [decide_eq_true h, Bool.true_and]]
    (have hF := an hp0 <| an hI <| an hsl <| an Nat.zero_le <| an Nat.sub_zero <| hE; have hc := trivial; repeat' (first | refine wK ?_ | refine wX ?_ | refine rR ?_ | refine rB ?_ ?_ <;> intro ht <;> try simp only [bbs] at ht | refine rG ?_ ?_ <;> intro hc | refine rZ ?_ | refine wQ ?_))
    all_goals try exact False.elim kk
    all_goals exact gives_boolv rfl
  · have hI : ¬ (b.length : Int) ≤ (a.length : Int) := by omega
    rw [show preB a b = false by unfold preB; rw [decide_eq_false h, Bool.false_and]]
    (have hF := an hp0 <| hI; have hc := trivial; repeat' (first | refine wK ?_ | refine wX ?_ | refine rR ?_ | refine rB ?_ ?_ <;> intro ht <;> try simp only [bbs] at ht | refine rG ?_ ?_ <;> intro hc | refine rZ ?_ | refine wQ ?_))
    all_goals try exact False.elim kk
    all_goals exact gives_boolv rfl
theorem c_bHasPrefix (a b : List Int) (ha : Eng.Bytes a) (hb : Eng.Bytes b) : ∀ H, call Tryz.prog cfg0 0 50 [bytesL a, bytesL b] H = some (.v (.bool (preB a b)), H) :=
  call_fz Tryz.func50 rfl ok_bHasPrefix rfl (by simp only [fz_cons, fz_nil, go_sem, and_self]) (p_bHasPrefix a b ha hb)

theorem ok_sl9Node : fnOk Tryz.prog cfg0 79 Tryz.f79 = true := by kernel_rfl
theorem p_sl9Node (n : Int) : pure Tryz.prog cfg0 79 Tryz.f79 [.v (.int .i64 n)] = some (.v (.bool (inB n 0 3)), true) := by
  refine pure_wp (rs := [.tmp 2]) rfl rfl ?_
  have hp0 : ∀ b, cfg0.pol 79 b = 0 := fun b => rfl
  (have hF := an hp0 <| c_sl1In; have hc := trivial; repeat' (first | refine wK ?_ | refine wX ?_ | refine rR ?_ | refine rB ?_ ?_ <;> intro ht <;> try simp only [bbs] at ht | refine rG ?_ ?_ <;> intro hc | refine rZ ?_ | refine wQ ?_))
  all_goals (refine gives_boolv ?_; simp_all [inB])
theorem c_sl9Node (n : Int) : ∀ H, call Tryz.prog cfg0 0 79 [.v (.int .i64 n)] H = some (.v (.bool (inB n 0 3)), H) :=
  call_fz Tryz.func79 rfl ok_sl9Node rfl (by simp only [fz_cons, fz_nil, go_sem, and_self]) (p_sl9Node n)

def cutB (l : List Int) (k : Int) (rs : List RecordM) : Bool := decide (lastN rs < 3) && decide ((60 : Int) < l.length + if k = 33 then 22 else 16)
theorem ok_sl10CutHere : fnOk Tryz.prog cfg0 58 Tryz.f58 = true := by kernel_rfl
theorem p_sl10CutHere (l : List Int) (hl : l.length ≤ 1048576) (k : Int) (rs : List RecordM) (hrl : rs.length ≤ 100) : pure Tryz.prog cfg0 58 Tryz.f58 [bytesL l, .v (.int .i64 k), .lst false (rs.map encRecord)] = some (.v (.bool (cutB l k rs)), true) := by
  refine pure_wp (rs := [.tmp 6]) rfl rfl ?_
  have hp0 : ∀ b, cfg0.pol 58 b = 0 := fun b => rfl
  have w16 : IntKind.wrap .i64 ((l.length : Int) + 16) = (l.length : Int) + 16 := wrap_i64 (by omega) (by omega)
  have w22 : IntKind.wrap .i64 ((l.length : Int) + 22) = (l.length : Int) + 22 := wrap_i64 (by omega) (by omega)
  have c00 : (0 : Int) < ((0 : Nat) : Int) ↔ False := by simp
  rcases List.eq_nil_or_concat rs with hr0 | ⟨rs0, r, hr0⟩
  · subst hr0
    have hc1 : cutB l k [] = decide ((60 : Int) < l.length + if k = 33 then 22 else 16) := by unfold cutB lastN; simp
    rw [hc1]
    by_cases hk : k = 33
    · have hT : (k = 33) = True := eq_true hk
      rw [if_pos hk]
      (have hF := an hp0 <| an hT <| an w16 <| an w22 <| c00; have hc := trivial; repeat' (first | refine wK ?_ | refine wX ?_ | refine rR ?_ | refine rB ?_ ?_ <;> intro ht <;> try simp only [bbs] at ht | refine rG ?_ ?_ <;> intro hc | refine rZ ?_ | refine wQ ?_))
      all_goals try exact False.elim kk
      all_goals exact gives_boolv rfl
    · have hT : (k = 33) = False := eq_false hk
      rw [if_neg hk]
      (have hF := an hp0 <| an hT <| an w16 <| an w22 <| c00; have hc := trivial; repeat' (first | refine wK ?_ | refine wX ?_ | refine rR ?_ | refine rB ?_ ?_ <;> intro ht <;> try simp only [bbs] at ht | refine rG ?_ ?_ <;> intro hc | refine rZ ?_ | refine wQ ?_))
      all_goals try exact False.elim kk
      all_goals exact gives_boolv rfl
  · rw [List.concat_eq_append] at hr0
    subst hr0
    have hn : (0 : Int) < ((rs0.length + 1 : Nat) : Int) := by omega
    have wn : IntKind.wrap .i64 (((rs0.length + 1 : Nat) : Int) - 1) = ((rs0.length : Nat) : Int) := by
      rw [List.length_append, List.length_singleton] at hrl
      rw [wrap_i64 (by omega) (by omega)]; omega
    have hln : (((rs0 ++ [r]).map encRecord)).length = rs0.length + 1 := by simp
    have hg : ((rs0 ++ [r]).map encRecord)[rs0.length]? = some (encRecord r) := by simp
    have hc1 : cutB l k (rs0 ++ [r]) = (decide (r.Node < 3) && decide ((60 : Int) < l.length + if k = 33 then 22 else 16)) := by unfold cutB; rw [lastN_snoc]
    rw [hc1]
    have h3 : (encRecord r).length = 3 := rfl
    generalize (rs0 ++ [r]).map encRecord = xs at *
    generalize rs0.length = n at *
    by_cases hk : k = 33
    · have hT : (k = 33) = True := eq_true hk
      rw [if_pos hk]
      by_cases hr3 : 3 ≤ r.Node
      · rw [decide_eq_false (by omega), Bool.false_and]
        (have hF := an hp0 <| an hT <| an w16 <| an w22 <| an hln <| an hn <| an wn <| an hg <| an h3 <| an encRecord.eq_def <| hr3; have hc := trivial; repeat' (first | refine wK ?_ | refine wX ?_ | refine rR ?_ | refine rB ?_ ?_ <;> intro ht <;> try simp only [bbs] at ht | refine rG ?_ ?_ <;> intro hc | refine rZ ?_ | refine wQ ?_))
        all_goals try exact False.elim kk
        all_goals exact gives_boolv rfl
      · rw [decide_eq_true (by omega), Bool.true_and]
        (have hF := an hp0 <| an hT <| an w16 <| an w22 <| an hln <| an hn <| an wn <| an hg <| an h3 <| an encRecord.eq_def <| hr3; have hc := trivial; repeat' (first | refine wK ?_ | refine wX ?_ | refine rR ?_ | refine rB ?_ ?_ <;> intro ht <;> try simp only [bbs] at ht | refine rG ?_ ?_ <;> intro hc | refine rZ ?_ | refine wQ ?_))
        all_goals try exact False.elim kk
        all_goals exact gives_boolv rfl
    · have hT : (k = 33) = False := eq_false hk
      rw [if_neg hk]
      by_cases hr3 : 3 ≤ r.Node
      · rw [decide_eq_false (by omega), Bool.false_and]
        (have hF := an hp0 <| an hT <| an w16 <| an w22 <| an hln <| an hn <| an wn <| an hg <| an h3 <| an encRecord.eq_def <| hr3; have hc := trivial; repeat' (first | refine wK ?_ | refine wX ?_ | refine rR ?_ | refine rB ?_ ?_ <;> intro ht <;> try simp only [bbs] at ht | refine rG ?_ ?_ <;> intro hc | refine rZ ?_ | refine wQ ?_))
        all_goals try exact False.elim kk
        all_goals exact gives_boolv rfl
      · rw [decide_eq_true (by omega), Bool.true_and]
        (have hF := an hp0 <| an hT <| an w16 <| an w22 <| an hln <| an hn <| an wn <| an hg <| an h3 <| an encRecord.eq_def <| hr3; have hc := trivial; repeat' (first | refine wK ?_ | refine wX ?_ | refine rR ?_ | refine rB ?_ ?_ <;> intro ht <;> try simp only [bbs] at ht | refine rG ?_ ?_ <;> intro hc | refine rZ ?_ | refine wQ ?_))
        all_goals try exact False.elim kk
        all_goals exact gives_boolv rfl
end
end Go.Proofs.YtnejoidfbgklbaaGreatDoor
namespace Go.Proofs.YtnejoidfbgklbaaGreatDoor
open Go Go.RowKit Go.Proofs.YtnejoidfbgklbaaGreatDoor.Eng
set_option linter.unusedSimpArgs false
set_option linter.unusedVariables false
set_option maxRecDepth 100000
set_option maxHeartbeats 2000000
noncomputable section
def bkR (l : List Int) (p : Nat) : AV := .tup [.agg (encRecord (bkRec l p)), .v (.int .i64 (if bkOk l p = true then ((p + bkW l p : Nat) : Int) else (p : Int))), .v (.bool (bkOk l p))]
theorem bk_no {l : List Int} {p : Nat} {r : RecordM} (h1 : bkRec l p = r) (h : bkOk l p = false) : bkR l p = .tup [.agg (encRecord r), .v (.int .i64 (p : Nat)), .v (.bool false)] := by unfold bkR; rw [h, h1]; simp
theorem d_bk (r : RecordM) (a : Int) (b : Bool) (H : Hp) : deep H depthD (.tup [.agg (encRecord r), .v (.int .i64 a), .v (.bool b)]) = some (.tup [.agg (encRecord r), .v (.int .i64 a), .v (.bool b)]) := rfl
open Classical in
theorem cp_Record (r : RecordM) (hro : recOk r) : ∀ H q, call Tryz.prog cfg0 0 77 [.ptr q 0] H = if H.h q = some (encRecord r) then some (bytesL (recB r), H) else call' Tryz.prog cfg0 0 77 [.ptr q 0] H := fun H q =>
  call_if Tryz.func77 rfl ok_sl10Record rfl (fun hC => mapM_c (show deep H depthD (.ptr q 0) = some (.fp (encRecord r) 0) by
    show ((H.h q).bind fun cs => (cs.mapM (deep H 11)).map fun ds => AV.fp ds 0) = _
    rw [hC]; rfl) mapM_n) (p_sl10Record r hro)
theorem ok_sl10Back : fnOk Tryz.prog cfg0 57 Tryz.f57 = true := by kernel_rfl
theorem p_sl10Back (l : List Int) (hb : Eng.Bytes l) (hl : l.length ≤ 1048576) (p : Nat) (hpl : p ≤ l.length) : ∃ cl, pure Tryz.prog cfg0 57 Tryz.f57 [bytesL l, .v (.int .i64 (p : Nat))] = some (bkR l p, cl) := by
  have key : ∃ v cl, v = (bkR l p : AV) ∧ pure Tryz.prog cfg0 57 Tryz.f57 [bytesL l, .v (.int .i64 (p : Nat))] = some (v, cl) := by
    refine pure_ex (rs := [.cell 4 86, .tmp 5, .tmp 6]) rfl rfl ?_
    have hp0 : ∀ b, cfg0.pol 57 b = 0 := fun b => rfl
    have w16 : IntKind.wrap .i64 (((p : Nat) : Int) + 16) = ((p + 16 : Nat) : Int) := by rw [wrap_i64 (by omega) (by omega)]; omega
    have w22 : IntKind.wrap .i64 (((p : Nat) : Int) + 22) = ((p + 22 : Nat) : Int) := by rw [wrap_i64 (by omega) (by omega)]; omega
    have wp2 : IntKind.wrap .i64 (((p : Nat) : Int) + 2) = ((p + 2 : Nat) : Int) := by rw [wrap_i64 (by omega) (by omega)]; omega
    have w20 : IntKind.wrap .i64 (((p : Nat) : Int) + 20) = ((p + 20 : Nat) : Int) := by rw [wrap_i64 (by omega) (by omega)]; omega
    have w15 : IntKind.wrap .i64 (((p : Nat) : Int) + 15) = ((p + 15 : Nat) : Int) := by rw [wrap_i64 (by omega) (by omega)]; omega
    by_cases h16 : p + 16 ≤ l.length
    rotate_left
    · have hI : (l.length : Int) < ((p + 16 : Nat) : Int) := by omega
      rw [bk_no (r := ⟨0, 0, 0⟩) (by unfold bkRec; rw [if_pos (by omega)]) (by unfold bkOk; rw [decide_eq_false h16, Bool.false_and])]
      (have hF := an hp0 <| an w16 <| hI; have hc := trivial; repeat' (first | refine wK ?_ | refine wX ?_ | refine rR ?_ | refine rB ?_ ?_ <;> intro ht <;> try simp only [bbs] at ht | refine rG ?_ ?_ <;> intro hc | refine rZ ?_ | refine wQ ?_))
      all_goals try exact False.elim kk
      all_goals exact dirty (d_bk ⟨0, 0, 0⟩ _ _ _)
    have hI : ¬ (l.length : Int) < ((p + 16 : Nat) : Int) := by omega
    have r2 := num2_rd hb (p := p + 2) (by omega)
    have hr2 := c_sl1Read l (p + 2) 2 ((p + 2 : Nat) : Int) 2 rfl rfl hb (by omega) hl (by omega)
    rw [r2.1, num2n_is] at hr2
    have hT : num2n l (p + 2) = bkT l p := rfl
    rw [hT] at hr2
    have hTb := num2n_b hb (p + 2)
    rw [hT] at hTb
    by_cases h33 : bkT l p = 33
    · have hw : bkW l p = 22 := by unfold bkW; rw [if_pos h33]
      by_cases h22 : p + 22 ≤ l.length
      rotate_left
      · have hJ : (l.length : Int) < ((p + 22 : Nat) : Int) := by omega
        rw [bk_no (r := ⟨33, 0, 0⟩) (by unfold bkRec; rw [if_neg (by omega), if_pos h33, if_pos (by omega)]) (by unfold bkOk; rw [hw, decide_eq_false h22, Bool.false_and, Bool.and_false])]
        rw [h33] at hr2
        (have hF := an hp0 <| an w16 <| an w22 <| an wp2 <| an hI <| an hJ <| hr2; have hc := trivial; repeat' (first | refine wK ?_ | refine wX ?_ | refine rR ?_ | refine rB ?_ ?_ <;> intro ht <;> try simp only [bbs] at ht | refine rG ?_ ?_ <;> intro hc | refine rZ ?_ | refine wQ ?_))
        all_goals try exact False.elim kk
        all_goals exact dirty (d_bk ⟨33, 0, 0⟩ _ _ _)
      have hJ : ¬ (l.length : Int) < ((p + 22 : Nat) : Int) := by omega
      have r16 := num2_rd hb (p := p + 16) (by omega)
      have hr16 := c_sl1Read l (p + 16) 2 ((p + 16 : Nat) : Int) 2 rfl rfl hb (by omega) hl (by omega)
      rw [r16.1, num2n_is] at hr16
      obtain ⟨d, hg, -, hm⟩ := at_drop (l := l) (j := p + 20) (by omega)
      have hd := hb d hm
      have hrec : bkRec l p = ⟨33, d - 48, num2n l (p + 16)⟩ := by unfold bkRec; rw [if_neg (by omega), if_pos h33, if_neg (by omega), num1_at hb hg]
      have wd : IntKind.wrap .i64 d = d := wrap_i64 (by omega) (by omega)
      have wd2 : IntKind.wrap .i64 (d - 48) = d - 48 := wrap_i64 (by omega) (by omega)
      have hn := c_sl9Node (d - 48)
      rw [h33] at hr2
      have hpb := num2n_b hb (p + 16)
      have hbk : bkOk l p = (inB (d - 48) 0 3 && decide (recB ⟨33, d - 48, num2n l (p + 16)⟩ = (l.drop p).take 22)) := by
        unfold bkOk
        rw [hw, hrec, decide_eq_true h16, decide_eq_true h22, h33]
        rfl
      generalize num2n l (p + 16) = po at *
      cases hnn : inB (d - 48) 0 3 with
      | false =>
        rw [bk_no hrec (by rw [hbk, hnn, Bool.false_and])]
        rw [hnn] at hn
        (have hF := an hp0 <| an w16 <| an w22 <| an wp2 <| an w20 <| an hI <| an hJ <| an hr2 <| an hr16 <| an hg <| an wd <| an wd2 <| an hn <| (aconv_int u5 u2); have hc := trivial; repeat' (first | refine wK ?_ | refine wX ?_ | refine rR ?_ | refine rB ?_ ?_ <;> intro ht <;> try simp only [bbs] at ht | refine rG ?_ ?_ <;> intro hc | refine rZ ?_ | refine wQ ?_))
        all_goals try exact False.elim kk
        all_goals exact dirty (d_bk ⟨33, d - 48, po⟩ _ _ _)
      | true =>
        rw [hnn] at hn
        have hro : recOk ⟨33, d - 48, po⟩ := ⟨.inr rfl, inB_t.1 hnn, hpb⟩
        have hcr := cp_Record ⟨33, d - 48, po⟩ hro
        unfold encRecord at hcr
        have hsl : (p ≤ p + 22 ∧ p + 22 ≤ l.length) = True := eq_true ⟨by omega, h22⟩
        have hsb : p + 22 - p = 22 := by omega
        have cvb := conv_bytesL u22 u9 u5
        have hrb : Eng.Bytes (recB ⟨33, d - 48, po⟩) := by
          intro z hz
          have h3 := inB_t.1 hnn
          unfold recB at hz
          rw [if_neg (show ¬ (33 : Int) = 1 by omega)] at hz
          simp only [List.mem_append, List.mem_cons, List.not_mem_nil, or_false] at hz
          rcases hz with hz | hz | hz | hz
          · omega
          · omega
          · exact wordL_bytes _ _ z hz
          · omega
        have hse := strOf_eq hrb (fun z hz => hb z (List.mem_of_mem_drop (List.mem_of_mem_take hz)) : Eng.Bytes ((l.drop p).take 22))
        by_cases he : recB ⟨33, d - 48, po⟩ = (l.drop p).take 22
        · have hok : bkOk l p = true := by rw [hbk, hnn, Bool.true_and, decide_eq_true he]
          rw [show bkR l p = .tup [.agg (encRecord ⟨33, d - 48, po⟩), .v (.int .i64 ((p + 22 : Nat) : Int)), .v (.bool true)] by unfold bkR; rw [hok, hrec, hw, if_pos rfl]]
          rw [decide_eq_true he] at hse
          (have hF := an hp0 <| an w16 <| an w22 <| an wp2 <| an w20 <| an hI <| an hJ <| an hr2 <| an hr16 <| an hg <| an wd <| an wd2 <| an hn <| an (aconv_int u5 u2) <| an hcr <| an hsl <| an hsb <| an cvb <| hse; have hc := trivial; repeat' (first | refine wK ?_ | refine wX ?_ | refine rR ?_ | refine rB ?_ ?_ <;> intro ht <;> try simp only [bbs] at ht | refine rG ?_ ?_ <;> intro hc | refine rZ ?_ | refine wQ ?_))
          all_goals try exact False.elim kk
          all_goals exact dirty (d_bk ⟨33, d - 48, po⟩ _ _ _)
        · rw [bk_no hrec (by rw [hbk, decide_eq_false he, Bool.and_false])]
          rw [decide_eq_false he] at hse
          (have hF := an hp0 <| an w16 <| an w22 <| an wp2 <| an w20 <| an hI <| an hJ <| an hr2 <| an hr16 <| an hg <| an wd <| an wd2 <| an hn <| an (aconv_int u5 u2) <| an hcr <| an hsl <| an hsb <| an cvb <| hse; have hc := trivial; repeat' (first | refine wK ?_ | refine wX ?_ | refine rR ?_ | refine rB ?_ ?_ <;> intro ht <;> try simp only [bbs] at ht | refine rG ?_ ?_ <;> intro hc | refine rZ ?_ | refine wQ ?_))
          all_goals try exact False.elim kk
          all_goals exact dirty (d_bk ⟨33, d - 48, po⟩ _ _ _)
    · have hw : bkW l p = 16 := by unfold bkW; rw [if_neg h33]
      obtain ⟨d, hg, -, hm⟩ := at_drop (l := l) (j := p + 15) (by omega)
      have hd := hb d hm
      have h33T : (bkT l p = 33) = False := eq_false h33
      have hrec : bkRec l p = ⟨bkT l p, d, 0⟩ := by unfold bkRec; rw [if_neg (by omega), if_neg h33, num1_at hb hg]
      have wd : IntKind.wrap .i64 d = d := wrap_i64 (by omega) (by omega)
      have hn := c_sl9Node d
      have hbk : bkOk l p = (typB (bkT l p) && (inB d 0 3 && decide (recB ⟨bkT l p, d, 0⟩ = (l.drop p).take 16))) := by
        unfold bkOk
        rw [hw, hrec, decide_eq_true h16, Bool.true_and, Bool.true_and]
      by_cases hT1 : bkT l p = 1
      rotate_left
      · have hT1F : (bkT l p = 1) = False := eq_false hT1
        have hty : typB (bkT l p) = false := by unfold typB; rw [decide_eq_false hT1, decide_eq_false h33]; rfl
        rw [bk_no hrec (by rw [hbk, hty, Bool.false_and])]
        generalize bkT l p = T at *
        (have hF := an hp0 <| an w16 <| an wp2 <| an w15 <| an hI <| an hr2 <| an hg <| an wd <| an h33T <| an hT1F <| (aconv_int u5 u2); have hc := trivial; repeat' (first | refine wK ?_ | refine wX ?_ | refine rR ?_ | refine rB ?_ ?_ <;> intro ht <;> try simp only [bbs] at ht | refine rG ?_ ?_ <;> intro hc | refine rZ ?_ | refine wQ ?_))
        all_goals try exact False.elim kk
        all_goals exact dirty (d_bk ⟨T, d, 0⟩ _ _ _)
      have hty : typB (bkT l p) = true := by unfold typB; rw [decide_eq_true hT1]; rfl
      rw [hty, Bool.true_and] at hbk
      rw [hT1] at hbk hrec hr2
      cases hnn : inB d 0 3 with
      | false =>
        rw [bk_no hrec (by rw [hbk, hnn, Bool.false_and])]
        rw [hnn] at hn
        (have hF := an hp0 <| an w16 <| an wp2 <| an w15 <| an hI <| an hr2 <| an hg <| an wd <| an hn <| (aconv_int u5 u2); have hc := trivial; repeat' (first | refine wK ?_ | refine wX ?_ | refine rR ?_ | refine rB ?_ ?_ <;> intro ht <;> try simp only [bbs] at ht | refine rG ?_ ?_ <;> intro hc | refine rZ ?_ | refine wQ ?_))
        all_goals try exact False.elim kk
        all_goals exact dirty (d_bk ⟨1, d, 0⟩ _ _ _)
      | true =>
        rw [hnn] at hn
        have h3 := inB_t.1 hnn
        have hro : recOk ⟨1, d, 0⟩ := ⟨.inl rfl, h3, by simp⟩
        have hcr := cp_Record ⟨1, d, 0⟩ hro
        unfold encRecord at hcr
        have hsl : (p ≤ p + 16 ∧ p + 16 ≤ l.length) = True := eq_true ⟨by omega, h16⟩
        have hsb : p + 16 - p = 16 := by omega
        have cvb := conv_bytesL u22 u9 u5
        have hrb : Eng.Bytes (recB ⟨1, d, 0⟩) := by
          intro z hz
          unfold recB at hz
          rw [if_pos rfl] at hz
          simp only [List.mem_append, List.mem_cons, List.not_mem_nil, or_false] at hz
          omega
        have hse := strOf_eq hrb (fun z hz => hb z (List.mem_of_mem_drop (List.mem_of_mem_take hz)) : Eng.Bytes ((l.drop p).take 16))
        by_cases he : recB ⟨1, d, 0⟩ = (l.drop p).take 16
        · have hok : bkOk l p = true := by rw [hbk, hnn, Bool.true_and, decide_eq_true he]
          rw [show bkR l p = .tup [.agg (encRecord ⟨1, d, 0⟩), .v (.int .i64 ((p + 16 : Nat) : Int)), .v (.bool true)] by unfold bkR; rw [hok, hrec, hw, if_pos rfl]]
          rw [decide_eq_true he] at hse
          (have hF := an hp0 <| an w16 <| an wp2 <| an w15 <| an hI <| an hr2 <| an hg <| an wd <| an hn <| an (aconv_int u5 u2) <| an hcr <| an hsl <| an hsb <| an cvb <| hse; have hc := trivial; repeat' (first | refine wK ?_ | refine wX ?_ | refine rR ?_ | refine rB ?_ ?_ <;> intro ht <;> try simp only [bbs] at ht | refine rG ?_ ?_ <;> intro hc | refine rZ ?_ | refine wQ ?_))
          all_goals try exact False.elim kk
          all_goals exact dirty (d_bk ⟨1, d, 0⟩ _ _ _)
        · rw [bk_no hrec (by rw [hbk, decide_eq_false he, Bool.and_false])]
          rw [decide_eq_false he] at hse
          (have hF := an hp0 <| an w16 <| an wp2 <| an w15 <| an hI <| an hr2 <| an hg <| an wd <| an hn <| an (aconv_int u5 u2) <| an hcr <| an hsl <| an hsb <| an cvb <| hse; have hc := trivial; repeat' (first | refine wK ?_ | refine wX ?_ | refine rR ?_ | refine rB ?_ ?_ <;> intro ht <;> try simp only [bbs] at ht | refine rG ?_ ?_ <;> intro hc | refine rZ ?_ | refine wQ ?_))
          all_goals try exact False.elim kk
          all_goals exact dirty (d_bk ⟨1, d, 0⟩ _ _ _)
  obtain ⟨v, cl, rfl, hp⟩ := key
  exact ⟨cl, hp⟩
theorem c_sl10Back (l : List Int) (hb : Eng.Bytes l) (hl : l.length ≤ 1048576) (p : Nat) (hpl : p ≤ l.length) : ∀ H, call Tryz.prog cfg0 0 57 [bytesL l, .v (.int .i64 (p : Nat))] H = some (bkR l p, H) := fun H => by
  obtain ⟨cl, hp⟩ := p_sl10Back l hb hl p hpl
  exact call_fz Tryz.func57 rfl ok_sl10Back rfl (by simp only [fz_cons, fz_nil, go_sem, and_self]) hp H

end
end Go.Proofs.YtnejoidfbgklbaaGreatDoor
namespace Go.Proofs.YtnejoidfbgklbaaGreatDoor
open Go Go.RowKit Go.Proofs.YtnejoidfbgklbaaGreatDoor.Eng
set_option linter.unusedSimpArgs false
set_option linter.unusedVariables false
noncomputable section
theorem nm_ge (l : List Int) : ∀ (f p j : Nat) (ls : List ByteArray) (nx : Int), (nmR l f p j ls nx).1 = 0 → (j ≠ 0 → (nmR l f p j ls nx).2.2 = nx) ∧ (j = 0 → (p : Int) < (nmR l f p j ls nx).2.2) := by
  intro f
  induction f with
  | zero => intro p j ls nx h; simp [nmR] at h
  | succ f ih =>
    intro p j ls nx
    simp only [nmR]
    split
    · simp
    · rename_i c hc
      by_cases h0 : c = 0
      · simp only [if_pos h0]
        intro _
        refine ⟨fun hj => if_neg hj, fun hj => ?_⟩
        rw [if_pos hj]; omega
      · simp only [if_neg h0]
        by_cases h20 : c ≤ 20
        · simp only [if_pos h20]
          split
          · split
            · simp
            · intro h
              obtain ⟨i1, i2⟩ := ih _ _ _ _ h
              exact ⟨i1, fun hj => by have := i2 hj; omega⟩
          · simp
        · simp only [if_neg h20]
          split
          · split
            · simp
            · rename_i d hd
              split
              · simp
              · intro h
                obtain ⟨i1, i2⟩ := ih _ _ _ _ h
                have i3 := i1 (by omega)
                refine ⟨fun hj => by rw [i3, if_neg hj], fun hj => ?_⟩
                rw [i3, if_pos hj]; omega
          · simp
def endA (l : List Int) : Nat := ((nmR l 12 12 0 [] 0).2.2 + 4).toNat
def quA (l : List Int) : List Int := (l.drop 12).take (endA l - 12)
def qyA (l : List Int) : List Int := l.take 2 ++ [1, 0, 0, 1, 0, 0, 0, 0, 0, 0] ++ quA l
def chk (l : List Int) (st : Int) (cut : Bool) (w : List Int) (rs : List RecordM) : Option (List RecordM) := if ansB (l.take 2) st cut w rs = l then some rs else none
def nmO (l : List Int) : Prop := (nmR l 12 12 0 [] 0).1 = 0 ∧ (nmR l 12 12 0 [] 0).2.2 + 4 ≤ l.length
instance (l : List Int) : Decidable (nmO l) := by unfold nmO; infer_instance
def ctA (l : List Int) : Bool := decide (num1 l 2 = 134)
def arE (l : List Int) (t : Int) (s : Int) (rs : List RecordM) : Option (List RecordM) := if ctA l = true then (if s = 0 ∧ cutB l t rs = true then chk l s true (quA l) rs else none) else chk l s false (quA l) rs
def aR (l : List Int) : Option (List RecordM) :=
  if num1 l 3 = 1 then chk l 1 false [] []
  else if nmO l then
    match qF (qyA l) with
    | none => none
    | some (_, ls, t) => if stF ls t = num1 l 3 then (match (if stF ls t = 0 then rdR l t 5 (endA l) [] else some []) with
      | none => none
      | some rs => arE l t (stF ls t) rs) else none
  else none
def riA (l : List Int) (rs : List RecordM) : Bool := decide (num1 l 3 = 0) || ((decide (num1 l 3 = 1) || decide (num1 l 3 = 3) || decide (num1 l 3 = 4)) && decide (rs = []) && !ctA l)
def fiS (l : List Int) (p : Nat) (k : Int) (w : List Int) : Option (List RecordM) := match rdR l k 5 p [] with
  | none => none
  | some rs => if riA l rs = true ∧ (ctA l = true → cutB l k rs = true) ∧ ansB (l.take 2) (num1 l 3) (ctA l) w rs = l then some rs else none
def badS (l : List Int) (ls : List ByteArray) (t : Int) : Prop := ¬ (num1 l 3 = 3 ↔ svOf ls < 0) ∨ (num1 l 3 = 4 ∧ typB t = true) ∨ (num1 l 3 = 0 ∧ typB t = false)
open Classical in
def sR (l : List Int) : Option (List RecordM) :=
  if num1 l 3 = 1 then fiS l 12 0 []
  else if nmO l then
    match qF (qyA l) with
    | none => none
    | some (_, ls, t) => if badS l ls t then none else fiS l (endA l) t (quA l)
  else none
theorem ans_len {l w : List Int} {st : Int} {cut : Bool} {rs : List RecordM} (h2 : 2 ≤ l.length) : (ansB (l.take 2) st cut w rs).length = 12 + w.length + ((rs.map recB).flatten).length := by
  unfold ansB
  simp [wordL_len]
  omega
theorem ans_2 {l w : List Int} {st : Int} {cut : Bool} {rs : List RecordM} (h2 : 2 ≤ l.length) : (ansB (l.take 2) st cut w rs)[2]? = some (if cut = true then 134 else 132) := by
  obtain ⟨a, b, e⟩ := take_two h2
  unfold ansB
  rw [e]; rfl
theorem chk_cut {l w : List Int} {st : Int} {rs : List RecordM} {cut : Bool} (hb : Eng.Bytes l) (h2 : 2 ≤ l.length) (h : ansB (l.take 2) st cut w rs = l) : ctA l = cut := by
  have h1 := ans_2 (l := l) (w := w) (st := st) (cut := cut) (rs := rs) h2
  rw [h] at h1
  have := num1_at hb h1
  unfold ctA
  rw [this]
  cases cut <;> simp
theorem rdR_at {l : List Int} {k : Int} {p : Nat} (h : ¬ typB k = true) : rdR l k 5 p [] = if l.length ≤ p then some [] else none := by
  rw [rdR]
  split
  · rfl
  · rw [if_neg (fun x => h x.1)]
theorem rdR_ne {l : List Int} {k : Int} {p : Nat} (hp : ¬ l.length ≤ p) : rdR l k 5 p [] ≠ some [] := by
  have key : ∀ (f p : Nat) (acc rs : List RecordM), rdR l k f p acc = some rs → acc.length ≤ rs.length := by
    intro f
    induction f with
    | zero => intro p acc rs h; simp [rdR] at h
    | succ f ih =>
      intro p acc rs h
      rw [rdR] at h
      split at h
      · obtain rfl := Option.some.inj h; exact Nat.le_refl _
      · split at h
        · have := ih _ _ _ h; simp at this; omega
        · simp at h
  intro h
  rw [rdR, if_neg hp] at h
  split at h
  · have := key _ _ _ _ h; simp at this
  · simp at h
theorem quA_len {l : List Int} (h : nmO l) : (quA l).length = endA l - 12 ∧ 12 ≤ endA l ∧ endA l ≤ l.length := by
  obtain ⟨h1, h2⟩ := h
  have hg := (nm_ge l 12 12 0 [] 0 h1).2 rfl
  have h12 : ((12 : Nat) : Int) = 12 := rfl
  have he : 12 ≤ endA l ∧ endA l ≤ l.length := by unfold endA; omega
  refine ⟨?_, he⟩
  unfold quA
  rw [List.length_take, List.length_drop]; omega
/-- The program and the reference agree. -/
theorem sR_aR {l : List Int} (hb : Eng.Bytes l) (h12 : 12 ≤ l.length) : sR l = aR l := by
  unfold sR aR
  by_cases h1 : num1 l 3 = 1
  · rw [if_pos h1, if_pos h1]
    have ht0 : ¬ typB 0 = true := by decide
    unfold fiS
    rw [rdR_at ht0]
    unfold chk
    by_cases hl : l.length ≤ 12
    · rw [if_pos hl]
      simp only
      by_cases he : ansB (l.take 2) 1 false [] [] = l
      · have hc := chk_cut hb (by omega) he
        rw [if_pos he, if_pos]
        rw [h1, hc]
        refine ⟨?_, by simp, he⟩
        unfold riA; rw [h1, hc]; simp
      · rw [if_neg he, if_neg]
        rintro ⟨hr, -, ha⟩
        have hc : ctA l = false := by
          unfold riA at hr
          rw [h1] at hr
          simpa using hr
        rw [h1, hc] at ha
        exact he ha
    · rw [if_neg hl]
      simp only
      rw [if_neg]
      intro he
      have := ans_len (l := l) (w := []) (st := 1) (cut := false) (rs := []) (by omega)
      rw [he] at this
      simp at this; omega
  · rw [if_neg h1, if_neg h1]
    by_cases hn : nmO l
    rotate_left
    · rw [if_neg hn, if_neg hn]
    rw [if_pos hn, if_pos hn]
    obtain ⟨q1, q2, q3⟩ := quA_len hn
    cases hq : qF (qyA l) with
    | none => rfl
    | some z =>
      obtain ⟨i, ls, t⟩ := z
      simp only
      by_cases hs : stF ls t = num1 l 3
      · have hbad : ¬ badS l ls t := by
          unfold badS stF at *
          rintro (h | ⟨h4, ht4⟩ | ⟨h4, ht4⟩)
          · by_cases hsv : svOf ls < 0
            · rw [if_pos hsv] at hs; exact h ⟨fun _ => hsv, fun _ => by omega⟩
            · rw [if_neg hsv] at hs
              refine h ⟨fun h3 => ?_, fun x => absurd x hsv⟩
              split at hs <;> omega
          · by_cases hsv : svOf ls < 0
            · rw [if_pos hsv] at hs; omega
            · rw [if_neg hsv, if_pos ht4] at hs; omega
          · by_cases hsv : svOf ls < 0
            · rw [if_pos hsv] at hs; omega
            · rw [if_neg hsv, if_neg (by simp [ht4])] at hs; omega
        rw [if_neg hbad, if_pos hs]
        by_cases hs0 : stF ls t = 0
        · rw [if_pos hs0]
          unfold fiS
          cases hr : rdR l t 5 (endA l) [] with
          | none => rfl
          | some rs =>
            simp only
            have hri : riA l rs = true := by unfold riA; rw [← hs, hs0]; simp
            unfold arE chk
            rw [← hs, hs0]
            cases hct : ctA l with
            | true =>
              by_cases hcb : cutB l t rs = true
              · by_cases he : ansB (l.take 2) 0 true (quA l) rs = l
                · simp [hri, hcb, he]
                · simp [hri, hcb, he]
              · simp [hri, hcb]
            | false =>
              by_cases he : ansB (l.take 2) 0 false (quA l) rs = l
              · simp [hri, he]
              · simp [hri, he]
        · rw [if_neg hs0]
          simp only
          unfold fiS arE chk
          have hne : ¬ num1 l 3 = 0 := by rw [← hs]; exact hs0
          by_cases hle : l.length ≤ endA l
          · have hr : rdR l t 5 (endA l) [] = some [] := by rw [rdR, if_pos hle]
            rw [hr]
            simp only
            rw [hs]
            cases hct : ctA l with
            | true =>
              have hr2 : riA l [] = false := by unfold riA; rw [hct]; simp [hne]
              simp [hr2, hne]
            | false =>
              have hri : riA l [] = true := by
                unfold riA
                rw [hct]
                unfold stF at hs hs0
                simp only [decide_eq_true_eq, Bool.or_eq_true, Bool.and_eq_true, Bool.not_false, and_true]
                right
                split at hs
                · left; right; omega
                · split at hs
                  · rename_i h2 h3; rw [if_neg h2, if_pos h3] at hs0; exact absurd rfl hs0
                  · right; omega
              by_cases he : ansB (l.take 2) (num1 l 3) false (quA l) [] = l
              · simp [hri, he]
              · simp [hri, he]
          · have hno : (match rdR l t 5 (endA l) [] with
              | none => none
              | some rs => if riA l rs = true ∧ (ctA l = true → cutB l t rs = true) ∧ ansB (l.take 2) (num1 l 3) (ctA l) (quA l) rs = l then some rs else none) = none := by
              cases hr : rdR l t 5 (endA l) [] with
              | none => rfl
              | some rs =>
                simp only
                rw [if_neg]
                rintro ⟨x, -⟩
                have hrs : ¬ rs = [] := fun e => rdR_ne hle (e ▸ hr)
                unfold riA at x
                simp [hne, hrs] at x
            rw [hno]
            have hl2 := ans_len (l := l) (w := quA l) (st := stF ls t) (cut := false) (rs := []) (by omega)
            cases hct : ctA l with
            | true => simp [hs0]
            | false =>
              have he : ¬ ansB (l.take 2) (stF ls t) false (quA l) [] = l := by
                intro he
                rw [he] at hl2
                simp at hl2; omega
              simp [he]
      · rw [if_neg hs]
        by_cases hbad : badS l ls t
        · rw [if_pos hbad]
        · rw [if_neg hbad]
          unfold fiS
          cases hr : rdR l t 5 (endA l) [] with
          | none => rfl
          | some rs =>
            simp only
            rw [if_neg]
            rintro ⟨x, -⟩
            unfold riA at x
            simp only [Bool.or_eq_true, decide_eq_true_eq, Bool.and_eq_true] at x
            unfold badS at hbad
            unfold stF at hs
            simp only [not_or, Classical.not_not] at hbad
            obtain ⟨b1, b2, b3⟩ := hbad
            by_cases hsv : svOf ls < 0
            · rw [if_pos hsv] at hs
              exact hs (b1.2 hsv).symm
            · rw [if_neg hsv] at hs
              have h3 : ¬ num1 l 3 = 3 := fun e => hsv (b1.1 e)
              cases htb : typB t with
              | true =>
                rw [if_pos htb] at hs
                have h4 : ¬ num1 l 3 = 4 := fun e => b2 ⟨e, htb⟩
                rcases x with x | ⟨⟨x, -⟩, -⟩ <;> omega
              | false =>
                rw [if_neg (by simp [htb])] at hs
                have h0 : ¬ num1 l 3 = 0 := fun e => b3 ⟨e, htb⟩
                rcases x with x | ⟨⟨x, -⟩, -⟩ <;> omega
end
end Go.Proofs.YtnejoidfbgklbaaGreatDoor
