/- Contracts: answers read, the reference's side. -/
import Derived.Test.YtnejoidfbgklbaaGreatDoorRX
namespace Go.Proofs.YtnejoidfbgklbaaGreatDoor
open Go Go.RowKit Go.Proofs.YtnejoidfbgklbaaGreatDoor.Eng
set_option linter.unusedSimpArgs false
set_option linter.unusedVariables false
set_option maxRecDepth 100000
set_option maxHeartbeats 4000000
noncomputable section
def arA (c i s : Int) (b : Bool) (rs : List RecordM) : AV := .agg [.v (.int .i64 c), .v (.int .i64 i), .v (.int .i64 s), .v (.bool b), .lst false (rs.map encRecord)]
def raX (l : List Int) : AV := if 12 ≤ l.length ∧ l.length ≤ 300 then (match aR l with
  | some rs => arA 0 (num2n l 0) (num1 l 3) (ctA l) rs
  | none => arA 5 0 0 false []) else arA 2 0 0 false []
theorem ra_none {l : List Int} (h : 12 ≤ l.length ∧ l.length ≤ 300) (h2 : aR l = none) : raX l = arA 5 0 0 false [] := by unfold raX; rw [if_pos h, h2]
theorem ra_some {l : List Int} {rs : List RecordM} (h : 12 ≤ l.length ∧ l.length ≤ 300) (h2 : aR l = some rs) : raX l = arA 0 (num2n l 0) (num1 l 3) (ctA l) rs := by unfold raX; rw [if_pos h, h2]
/-- Where the loop of the reference begins. -/
def fiT (l : List Int) (k : Int) (w : List Int) (o : Option (List RecordM)) : Option (List RecordM) := match o with
  | none => none
  | some rs => if riA l rs = true ∧ (ctA l = true → cutB l k rs = true) ∧ ansB (l.take 2) (num1 l 3) (ctA l) w rs = l then some rs else none
theorem fiS_T (l : List Int) (p : Nat) (k : Int) (w : List Int) : fiS l p k w = fiT l k w (rdR l k 5 p []) := rfl
theorem at3 {l : List Int} (hb : Eng.Bytes l) (i : Nat) (h : i < l.length) : l[i]? = some (num1 l i) := by
  have e : l[i]? = some l[i] := by simp [h]
  rw [num1_at hb e]; exact e
theorem mat_q (i t : Int) (ls : List ByteArray) (b : Bool) (hne : ls ≠ []) (H : Hp) : mat depthD (.tup [.agg [.v (.int .i64 i), textsL ls, .v (.int .i64 t)], .v (.bool b)]) H = some (.tup [.agg [.v (.int .i64 i), .sl H.g 1 0 ls.length, .v (.int .i64 t)], .v (.bool b)], H.new (ls.map txcell)) := by
  have e : mat 10 (textsL ls) H = some (.sl H.g 1 0 ls.length, H.new (ls.map txcell)) := mat_flat (fun s => .string s) 8 ls hne H
  have e0 : ∀ (d : Nat) (z : Int) (K : Hp), mat (d + 1) (.v (.int .i64 z)) K = some (.v (.int .i64 z), K) := fun _ _ _ => rfl
  have e2 : ∀ (d : Nat) (z : Bool) (K : Hp), mat (d + 1) (.v (.bool z)) K = some (.v (.bool z), K) := fun _ _ _ => rfl
  show (matL (mat 11) [AV.agg [.v (.int .i64 i), textsL ls, .v (.int .i64 t)], .v (.bool b)] H).map _ = _
  have e1 : mat 11 (.agg [.v (.int .i64 i), textsL ls, .v (.int .i64 t)]) H = some (.agg [.v (.int .i64 i), .sl H.g 1 0 ls.length, .v (.int .i64 t)], H.new (ls.map txcell)) := by
    show (matL (mat 10) [AV.v (.int .i64 i), textsL ls, .v (.int .i64 t)] H).map _ = _
    simp only [matL, e, e0, Option.bind_some, Option.map_some]
  simp only [matL, e1, e2, Option.bind_some, Option.map_some]
theorem mat_q0 (i t : Int) (b : Bool) (H : Hp) : mat depthD (.tup [.agg [.v (.int .i64 i), textsL [], .v (.int .i64 t)], .v (.bool b)]) H = some (.tup [.agg [.v (.int .i64 i), .lst false [], .v (.int .i64 t)], .v (.bool b)], H) := rfl
open Classical in
theorem oq_Ask (L : List Int) (hb : Eng.Bytes L) (hl : L.length ≤ 1048576) (h12 : 12 ≤ L.length) : ∀ H b n, call Tryz.prog cfg0 1 45 [.sl b 1 0 n] H = if H.h b = some (L.map cell) ∧ n = L.length then mat depthD (saR L) H else call' Tryz.prog cfg0 1 45 [.sl b 1 0 n] H := fun H b n => by
  split
  · rename_i h
    obtain ⟨h1, rfl⟩ := h
    exact call_ofO Tryz.func45 rfl ok_sl10Ask rfl (mapM_c (gF_bytes (n := 10) h1 rfl).1 mapM_n) (pq_sl10Ask L hb hl h12).2
  · rfl
open Classical in
theorem cs_Serv (ls : List ByteArray) : ∀ H b n, call Tryz.prog cfg0 0 56 [.sl b 1 0 n] H = if H.h b = some (ls.map txcell) ∧ n = ls.length ∧ b < H.g then some (.v (.int .i64 (svOf ls)), H) else call' Tryz.prog cfg0 0 56 [.sl b 1 0 n] H := fun H b n =>
  call_if Tryz.func56 rfl ok_sl10Service rfl (fun hC => mapM_c (by obtain ⟨h1, rfl, h3⟩ := hC; exact deep_txts h1 rfl h3 10) mapM_n) (p_sl10Service ls)
theorem cs_Serv0 : ∀ H, call Tryz.prog cfg0 0 56 [.lst false []] H = some (.v (.int .i64 (svOf [])), H) := c_sl10Service []
theorem mat_qx (i t : Int) (ls : List ByteArray) (b : Bool) : ∃ (X : Hp → AV) (K : Hp → Hp), (∀ H, mat depthD (.tup [.agg [.v (.int .i64 i), textsL ls, .v (.int .i64 t)], .v (.bool b)]) H = some (.tup [.agg [.v (.int .i64 i), X H, .v (.int .i64 t)], .v (.bool b)], K H)) ∧ (∀ H, okc (X H) = true ∧ asCells (X H) = some [X H]) ∧ (∀ H, Ext H (K H)) ∧ (∀ H H', Ext (K H) H' → call Tryz.prog cfg0 0 56 [X H] H' = some (.v (.int .i64 (svOf ls)), H')) := by
  by_cases hls : ls = []
  · subst hls
    exact ⟨fun _ => .lst false [], fun H => H, mat_q0 i t b, fun _ => ⟨rfl, rfl⟩, fun H => Ext.refl H, fun _ H' _ => cs_Serv0 H'⟩
  · refine ⟨fun H => .sl H.g 1 0 ls.length, fun H => H.new (ls.map txcell), mat_q i t ls b hls, fun _ => ⟨rfl, rfl⟩, fun H => (Ext.refl H).new _, fun H H' he => ?_⟩
    have h1 : H'.h H.g = some (ls.map txcell) := he.at (show H.g < (H.new (ls.map txcell)).g by simp) (by rw [Hp.new_h, if_pos rfl])
    have h2 : H.g < H'.g := Nat.lt_of_lt_of_le (show H.g < (H.new (ls.map txcell)).g by simp) he.1
    rw [cs_Serv ls H' H.g ls.length, if_pos ⟨h1, rfl, h2⟩]
theorem askH {K : Hp → Hp} {Hc : Hp} {z r : List AV} (he : Ext Hc (K Hc)) {b : Nat} (hb : b < Hc.g) {cs : List AV} (h : Hc.h b = some cs) : (((K Hc).new z).set (K Hc).g r).h b = some cs := by
  have := he.1
  rw [Hp.set_h, if_neg (by omega), Hp.new_h, if_neg (by omega), he.2 b hb, h]
theorem askG {K : Hp → Hp} {Hc : Hp} {z r : List AV} (he : Ext Hc (K Hc)) (h : 2 < Hc.g) : 2 < (((K Hc).new z).set (K Hc).g r).g := by
  have := he.1
  simp only [Hp.set_g, Hp.new_g]; omega
/-- What l10Ask tells of bytes that are neither too few nor too many. -/
theorem sa_is {L : List Int} (hb : Eng.Bytes L) (h : 12 ≤ L.length ∧ L.length ≤ 300) : ∃ (i t : Int) (ls : List ByteArray) (b : Bool), saR L = .tup [.agg [.v (.int .i64 i), textsL ls, .v (.int .i64 t)], .v (.bool b)] ∧ labsOk ls ∧ (b = true → qF L = some (i, ls, t)) ∧ (b = false → qF L = none) := by
  have hq : qF L = askF L := by unfold qF; rw [if_pos h]
  rw [hq]
  by_cases hc1 : (nmR L 12 12 0 [] 0).1 = 0 ∧ (nmR L 12 12 0 [] 0).2.2 + 4 = L.length
  · refine ⟨_, _, _, _, if_pos hc1, (nm_ok L 12 12 0 [] 0 ⟨by simp, by simp⟩ (by simp) hc1.1).1, fun hd => ?_, fun hd => ?_⟩
    · unfold askF; rw [if_pos ⟨hc1.1, of_decide_eq_true hd⟩]
    · unfold askF; rw [if_neg (fun x => of_decide_eq_false hd x.2)]
  · refine ⟨0, 0, [], false, if_neg hc1, ⟨by simp, by simp⟩, by simp, fun _ => ?_⟩
    unfold askF
    rw [if_neg]
    rintro ⟨hz, hp⟩
    exact hc1 ⟨hz, ask_end hz hp⟩
theorem sR_none {l : List Int} (h1 : ¬ num1 l 3 = 1) (hn : nmO l) (hq : qF (qyA l) = none) : sR l = none := by unfold sR; rw [if_neg h1, if_pos hn, hq]
theorem sR_bad {l : List Int} {i t : Int} {ls : List ByteArray} (h1 : ¬ num1 l 3 = 1) (hn : nmO l) (hq : qF (qyA l) = some (i, ls, t)) (hb : badS l ls t) : sR l = none := by unfold sR; rw [if_neg h1, if_pos hn, hq]; exact if_pos hb
theorem sR_go {l : List Int} {i t : Int} {ls : List ByteArray} (h1 : ¬ num1 l 3 = 1) (hn : nmO l) (hq : qF (qyA l) = some (i, ls, t)) (hb : ¬ badS l ls t) : sR l = fiS l (endA l) t (quA l) := by unfold sR; rw [if_neg h1, if_pos hn, hq]; exact if_neg hb
theorem RAcc.slE {H : Hp} {x : AV} {sz n : Nat} {cs : List AV} (h : RAcc H x sz cs n) (hn : n ≠ 0) : ∃ b, b < H.g ∧ x = .sl b sz 0 n ∧ H.h b = some cs := by
  rcases h.2 with ⟨h0, -⟩ | h
  · exact absurd h0 hn
  · exact h
theorem rec_cell {acc acc0 : List RecordM} {r0 : RecordM} (h : acc = acc0 ++ [r0]) : (acc.map encRecord).flatten[acc0.length * 3 + 1]? = some (.v (.int .i64 r0.Node)) := by
  have hl : ∀ a : List RecordM, (a.map encRecord).flatten.length = a.length * 3 := fun a => by
    induction a with
    | nil => rfl
    | cons r a ih => simp only [List.map_cons, List.flatten_cons, List.length_append, ih, List.length_cons]; have : (encRecord r).length = 3 := rfl; omega
  subst h
  rw [flat_snoc, List.getElem?_append_right (by rw [hl]; omega), hl, show acc0.length * 3 + 1 - acc0.length * 3 = 1 by omega]
  rfl
theorem recB_bytes {r : RecordM} (h : recOk r) : Eng.Bytes (recB r) := by
  obtain ⟨ht, hn, hp⟩ := h
  intro z hz
  unfold recB at hz
  split at hz
  · simp only [List.mem_append, List.mem_cons, List.not_mem_nil, or_false] at hz; omega
  · simp only [List.mem_append, List.mem_cons, List.not_mem_nil, or_false] at hz
    rcases hz with hz | hz | hz | hz
    · omega
    · omega
    · exact wordL_bytes _ _ z hz
    · omega
theorem ansB_bytes {i q : List Int} {st : Int} {cut : Bool} {rs : List RecordM} (hi : Eng.Bytes i) (hq : Eng.Bytes q) (hst : 0 ≤ st ∧ st ≤ 255) (hro : ∀ r ∈ rs, recOk r) : Eng.Bytes (ansB i st cut q rs) := by
  intro z hz
  unfold ansB at hz
  simp only [List.mem_append, List.mem_cons, List.not_mem_nil, or_false, List.mem_flatten, List.mem_map] at hz
  rcases hz with hz | hz | ((hz | hz) | hz) | hz | ⟨c, ⟨r, hr, rfl⟩, hz⟩
  · exact hi z hz
  · rcases hz with rfl | rfl
    · split <;> omega
    · omega
  · rcases hz with rfl | rfl
    · omega
    · split <;> omega
  · exact wordL_bytes _ _ z hz
  · omega
  · exact hq z hz
  · exact recB_bytes (hro r hr) z hz
theorem bytes_two {l : List Int} {a b : Int} (hb : Eng.Bytes l) (h : l.take 2 = [a, b]) : Eng.Bytes [a, b] := fun z hz => hb z (List.mem_of_mem_take (h ▸ hz))
theorem ok_sReadAnswer : fnOk Tryz.prog cfg0 16 Tryz.f16 = true := by kernel_rfl
theorem p_sReadAnswer (l : List Int) (hb : Eng.Bytes l) (hl : l.length ≤ 1048576) : ∃ cl, pure Tryz.prog cfg0 16 Tryz.f16 [bytesL l] = some (raX l, cl) := by
  have key : ∃ v cl, v = (raX l : AV) ∧ pure Tryz.prog cfg0 16 Tryz.f16 [bytesL l] = some (v, cl) := by
    refine pure_ex (rs := [.cell 2 41]) rfl rfl ?_
    have hp0 : ∀ b, cfg0.pol 16 b = (if b = 66 then 1 else if b = 71 then 1 else 0) := fun b => rfl
    by_cases hsz : 12 ≤ l.length ∧ l.length ≤ 300
    rotate_left
    · rw [show raX l = arA 2 0 0 false [] from if_neg hsz]
      by_cases h1 : ((l.length : Nat) : Int) < 12
      · (have hF := an hp0 <| h1; have hc := trivial; repeat' (first | refine wK ?_ | refine wX ?_ | refine rR ?_ | refine rB ?_ ?_ <;> intro ht <;> try simp only [bbs] at ht | refine rG ?_ ?_ <;> intro hc | refine rZ ?_ | refine wQ ?_))
        all_goals try exact False.elim kk
        all_goals exact dirty rfl
      · have h2 : 300 < ((l.length : Nat) : Int) := by omega
        (have hF := an hp0 <| an h1 <| h2; have hc := trivial; repeat' (first | refine wK ?_ | refine wX ?_ | refine rR ?_ | refine rB ?_ ?_ <;> intro ht <;> try simp only [bbs] at ht | refine rG ?_ ?_ <;> intro hc | refine rZ ?_ | refine wQ ?_))
        all_goals try exact False.elim kk
        all_goals exact dirty rfl
    have i1 : ¬ ((l.length : Nat) : Int) < 12 := by omega
    have i2 : ¬ 300 < ((l.length : Nat) : Int) := by omega
    have hsr := sR_aR hb hsz.1
    have r0 := num2_rd hb (p := 0) (by omega)
    have hr0 := c_sl1Read l 0 2 0 2 rfl rfl hb (by omega) hl (by omega)
    rw [r0.1] at hr0
    have hr0' : ∀ H, call Tryz.prog cfg0 0 53 [bytesL l, .v (.int .i64 0), .v (.int .i64 2)] H = some (.v (.int .i64 (num2n l 0)), H) := hr0
    have a3 := at3 hb 3 (by omega)
    have a2 := at3 hb 2 (by omega)
    have b3 := num1_b hb 3
    have w3 : IntKind.wrap .i64 (num1 l 3) = num1 l 3 := wrap_i64 (by omega) (by omega)
    have hct : decide (num1 l 2 = 134) = ctA l := rfl
    (have hF := an hp0 <| an i1 <| an i2 <| an hr0' <| an a3 <| an a2 <| an w3 <| an hct <| (aconv_int u5 u2); have hc := trivial; repeat' ((fail_if_success (first | refine wAt 8 ?_ | refine wAtL 8 ?_)); first | refine wK ?_ | refine wX ?_ | refine rR ?_ | refine rB ?_ ?_ <;> intro ht <;> try simp only [bbs] at ht | refine rG ?_ ?_ <;> intro hc | refine rZ ?_ | refine wQ ?_))
    all_goals try exact False.elim kk
    refine wMid (fun s => ∃ (p : Nat) (k : Int) (w : List Int), s.1 0 = bytesL l ∧ s.1 2 = .ptr 0 0 ∧ s.1 3 = .ptr 1 0 ∧ s.1 4 = .ptr 2 0 ∧ Dz 12 (s.1 5) (bytesL w) ∧ s.1 6 = .v (.int .i64 (p : Nat)) ∧ s.1 7 = .v (.int .i64 k) ∧ s.2.h 0 = some [.v (.int .i64 0), .v (.int .i64 0), .v (.int .i64 0), .v (.bool false), .v (.slice none 0 0)] ∧ s.2.h 1 = some [.v (.int .i64 5), .v (.int .i64 0), .v (.int .i64 0), .v (.bool false), .v (.slice none 0 0)] ∧ s.2.h 2 = some [.v (.int .i64 0), .v (.int .i64 (num2n l 0)), .v (.int .i64 (num1 l 3)), .v (.bool (ctA l)), .v (.slice none 0 0)] ∧ 2 < s.2.g ∧ p ≤ l.length ∧ sR l = fiS l p k w ∧ w.length ≤ 300 ∧ Eng.Bytes w) ?_ ?_
    · by_cases h1 : num1 l 3 = 1
      · have hT : (num1 l 3 = 1) = True := eq_true h1
        (have hF := an hp0 <| an hT <| not_true_eq_false; have hc := trivial; repeat' (first | refine wK ?_ | refine wX ?_ | refine rR ?_ | refine rB ?_ ?_ <;> intro ht <;> try simp only [bbs] at ht | refine rG ?_ ?_ <;> intro hc | refine rZ ?_ | refine wQ ?_))
        all_goals try exact False.elim kk
        refine (show ∃ (p : Nat) (k : Int) (w : List Int), _ from ⟨12, 0, [], rfl, rfl, rfl, rfl, dz_nilB, rfl, rfl, rfl, rfl, rfl, show (2 : Nat) < 3 by omega, hsz.1, by unfold sR; rw [if_pos h1], by simp, fun z hz => by simp at hz⟩)
      · have hT : (num1 l 3 = 1) = False := eq_false h1
        have hrd := c_sl10Read l hb hl hsz.1
        unfold srR at hrd
        obtain ⟨e1, e2, e3⟩ := nm_indep l 12 12 0 [] (-1) 0
        have e3 := e3 rfl
        rw [e1, e2] at hrd
        rw [e1] at e3
        have tx := tx_ok (nmR l 12 12 0 [] 0).2.1
        by_cases hz : (nmR l 12 12 0 [] 0).1 = 0
        rotate_left
        · rw [ra_none hsz (by rw [← hsr]; unfold sR; rw [if_neg h1, if_neg (fun x => hz x.1)])]
          generalize (nmR l 12 12 0 [] (-1)).2.2 = nx at *
          generalize (nmR l 12 12 0 [] 0).2.1 = ls at *
          (have hF := an hp0 <| an hT <| an hrd <| an hz <| an tx.1 <| tx.2; have hc := trivial; repeat' (first | refine wK ?_ | refine wX ?_ | refine rR ?_ | refine rB ?_ ?_ <;> intro ht <;> try simp only [bbs] at ht | refine rG ?_ ?_ <;> intro hc | refine rZ ?_ | refine wQ ?_))
          all_goals try exact False.elim kk
          all_goals exact dirty rfl
        rw [e3 hz, hz] at hrd
        obtain ⟨hk, hx0, hx1⟩ := nm_ok l 12 12 0 [] 0 ⟨by simp, by simp⟩ (by simp) hz
        by_cases hend : (nmR l 12 12 0 [] 0).2.2 + 4 ≤ l.length
        rotate_left
        · rw [ra_none hsz (by rw [← hsr]; unfold sR; rw [if_neg h1, if_neg (fun x => hend x.2)])]
          have w4 : IntKind.wrap .i64 ((nmR l 12 12 0 [] 0).2.2 + 4) = (nmR l 12 12 0 [] 0).2.2 + 4 := wrap_i64 (by omega) (by omega)
          have hendI : (l.length : Int) < (nmR l 12 12 0 [] 0).2.2 + 4 := by omega
          generalize (nmR l 12 12 0 [] 0).2.2 = nx at *
          generalize (nmR l 12 12 0 [] 0).2.1 = ls at *
          (have hF := an hp0 <| an hT <| an hrd <| an w4 <| an hendI <| an tx.1 <| tx.2; have hc := trivial; repeat' (first | refine wK ?_ | refine wX ?_ | refine rR ?_ | refine rB ?_ ?_ <;> intro ht <;> try simp only [bbs] at ht | refine rG ?_ ?_ <;> intro hc | refine rZ ?_ | refine wQ ?_))
          all_goals try exact False.elim kk
          all_goals exact dirty rfl
        have hnm : nmO l := ⟨hz, hend⟩
        obtain ⟨q1, q2, q3⟩ := quA_len hnm
        have w4 : IntKind.wrap .i64 ((nmR l 12 12 0 [] 0).2.2 + 4) = ((endA l : Nat) : Int) := by
          rw [wrap_i64 (by omega) (by omega)]; unfold endA; omega
        have hendI : ¬ (l.length : Int) < ((endA l : Nat) : Int) := by omega
        have hsl : (12 ≤ endA l ∧ endA l ≤ l.length) = True := eq_true ⟨q2, q3⟩
        have hqu : (l.drop 12).take (endA l - 12) = quA l := rfl
        have hge := (nm_ge l 12 12 0 [] 0 hz).2 rfl
        have hen : 16 < endA l := by unfold endA; omega
        obtain ⟨a, b, h2t⟩ := take_two (l := l) (by omega)
        have hcp := o_copy2 a b
        have hqy : qyA l = [a, b] ++ [1, 0, 0, 1, 0, 0, 0, 0, 0, 0] ++ quA l := by unfold qyA; rw [h2t]
        have hql : (qyA l).length = endA l := by rw [hqy]; simp; omega
        have hqb : Eng.Bytes (qyA l) := by
          unfold qyA
          refine bytes_app (bytes_app (fun z hz => hb z (List.mem_of_mem_take hz)) (fun z hz => ?_)) (fun z hz => hb z (List.mem_of_mem_drop (List.mem_of_mem_take hz)))
          simp only [List.mem_cons, List.not_mem_nil, or_false] at hz; omega
        have hne : quA l ≠ [] := fun e => by rw [e] at q1; simp at q1; omega
        have hsl2 : (2 ≤ l.length) = True := eq_true (by omega)
        have p1 := fun H c n => apB (y := .lst true [[.v (.int .u8 1)], [.v (.int .u8 0)], [.v (.int .u8 0)], [.v (.int .u8 1)], [.v (.int .u8 0)], [.v (.int .u8 0)], [.v (.int .u8 0)], [.v (.int .u8 0)], [.v (.int .u8 0)], [.v (.int .u8 0)]]) (l := [1, 0, 0, 1, 0, 0, 0, 0, 0, 0]) ⟨true, rfl⟩ (by simp) [a, b] (by simp) H c n
        have p2 := fun H c n => apB (isB_l (quA l)) hne ([a, b] ++ [1, 0, 0, 1, 0, 0, 0, 0, 0, 0]) (by simp; omega) H c n
        have hoq := oq_Ask (qyA l) hqb (by omega) (by omega)
        obtain ⟨i', t', ls', bb, hsa, hk', hqt, hqn⟩ := sa_is hqb ⟨by omega, by omega⟩
        rw [hsa] at hoq
        cases bb with
        | false =>
          rw [ra_none hsz (by rw [← hsr]; exact sR_none h1 hnm (hqn rfl))]
          rw [hqy] at hoq
          generalize (nmR l 12 12 0 [] 0).2.2 = nx at *
          generalize (nmR l 12 12 0 [] 0).2.1 = ls at *
          by_cases hls : ls' = []
          · subst hls
            simp only [mat_q0] at hoq
            (have hF := an hp0 <| an hT <| an hrd <| an w4 <| an hendI <| an tx.1 <| an tx.2 <| an hsl <| an hqu <| an hsl2 <| an Nat.zero_le <| an Nat.sub_zero <| an h2t <| an hcp <| an lit10 <| an chk10 <| an p1 <| an p2 <| hoq; have hc := trivial; repeat' (first | refine wK ?_ | refine wX ?_ | refine rR ?_ | refine rB ?_ ?_ <;> intro ht <;> try simp only [bbs] at ht | refine rG ?_ ?_ <;> intro hc | refine rZ ?_ | refine wQ ?_))
            all_goals try exact False.elim kk
            all_goals exact dirty rfl
          · simp only [mat_q i' t' ls' false hls] at hoq
            (have hF := an hp0 <| an hT <| an hrd <| an w4 <| an hendI <| an tx.1 <| an tx.2 <| an hsl <| an hqu <| an hsl2 <| an Nat.zero_le <| an Nat.sub_zero <| an h2t <| an hcp <| an lit10 <| an chk10 <| an p1 <| an p2 <| hoq; have hc := trivial; repeat' (first | refine wK ?_ | refine wX ?_ | refine rR ?_ | refine rB ?_ ?_ <;> intro ht <;> try simp only [bbs] at ht | refine rG ?_ ?_ <;> intro hc | refine rZ ?_ | refine wQ ?_))
            all_goals try exact False.elim kk
            all_goals exact dirty rfl
        | true =>
          have hq1 := hqt rfl
          rw [hqy] at hoq
          obtain ⟨X, K, hm, hXo, hXe, hXs⟩ := mat_qx i' t' ls' true
          simp only [hm] at hoq
          generalize (nmR l 12 12 0 [] 0).2.2 = nx at *
          generalize (nmR l 12 12 0 [] 0).2.1 = ls at *
          (have hF := an hp0 <| an hT <| an hrd <| an w4 <| an hendI <| an tx.1 <| an tx.2 <| an hsl <| an hqu <| an hsl2 <| an Nat.zero_le <| an Nat.sub_zero <| an h2t <| an hcp <| an lit10 <| an chk10 <| an p1 <| an p2 <| an hoq <| hXo; have hc := trivial; repeat' ((fail_if_success (first | refine wAt 15 ?_ | refine wAtL 15 ?_)); first | refine wK ?_ | refine wX ?_ | refine rR ?_ | refine rB ?_ ?_ <;> intro ht <;> try simp only [bbs] at ht | refine rG ?_ ?_ <;> intro hc | refine rZ ?_ | refine wQ ?_))
          all_goals try exact False.elim kk
          refine wAt 15 ?_
          refine wSt (fun e2 H2 => ∃ (qb : Nat) (Y : AV), e2 0 = bytesL l ∧ e2 2 = .ptr 0 0 ∧ e2 3 = .ptr 1 0 ∧ e2 4 = .ptr 2 0 ∧ e2 5 = bytesL (quA l) ∧ e2 6 = .v (.int .i64 (endA l : Nat)) ∧ e2 10 = .ptr qb 0 ∧ e2 11 = .v (.bool true) ∧ H2.h 0 = some [.v (.int .i64 0), .v (.int .i64 0), .v (.int .i64 0), .v (.bool false), .v (.slice none 0 0)] ∧ H2.h 1 = some [.v (.int .i64 5), .v (.int .i64 0), .v (.int .i64 0), .v (.bool false), .v (.slice none 0 0)] ∧ H2.h 2 = some [.v (.int .i64 0), .v (.int .i64 (num2n l 0)), .v (.int .i64 (num1 l 3)), .v (.bool (ctA l)), .v (.slice none 0 0)] ∧ H2.h qb = some [.v (.int .i64 i'), Y, .v (.int .i64 t')] ∧ 2 < H2.g ∧ call Tryz.prog cfg0 0 56 [Y] H2 = some (.v (.int .i64 (svOf ls')), H2)) ?_ ?_
          · refine ⟨_, _, rfl, rfl, rfl, rfl, rfl, rfl, rfl, rfl, askH (hXe _) (by show (0 : Nat) < 7; omega) rfl, askH (hXe _) (by show (1 : Nat) < 7; omega) rfl, askH (hXe _) (by show (2 : Nat) < 7; omega) rfl, by rw [Hp.set_h, if_pos rfl], ?_, hXs _ _ (((Ext.refl _).new _).set (Nat.le_refl _) _)⟩
            exact askG (hXe _) (by show (2 : Nat) < 7; omega)
          have hB : badS l ls' t' ↔ (¬ (num1 l 3 = 3 ↔ svOf ls' < 0) ∨ (num1 l 3 = 4 ∧ (t' = 1 ∨ t' = 33)) ∨ (num1 l 3 = 0 ∧ ¬ t' = 1 ∧ ¬ t' = 33)) := by unfold badS; simp [typB]
          have hgo := fun (x : ¬ (¬ (num1 l 3 = 3 ↔ svOf ls' < 0) ∨ (num1 l 3 = 4 ∧ (t' = 1 ∨ t' = 33)) ∨ (num1 l 3 = 0 ∧ ¬ t' = 1 ∧ ¬ t' = 33))) => sR_go h1 hnm hq1 (fun y => x (hB.1 y))
          have hbd := fun (x : (¬ (num1 l 3 = 3 ↔ svOf ls' < 0) ∨ (num1 l 3 = 4 ∧ (t' = 1 ∨ t' = 33)) ∨ (num1 l 3 = 0 ∧ ¬ t' = 1 ∧ ¬ t' = 33))) => ra_none hsz (hsr ▸ sR_bad h1 hnm hq1 (hB.2 x))
          have hqw : Eng.Bytes (quA l) := fun z hz => hb z (List.mem_of_mem_drop (List.mem_of_mem_take hz))
          have hql3 : (quA l).length ≤ 300 := by omega
          clear hoq hm hXo hXe hXs hB hq1 hqt hqn hsa hk' hqb hql hqy hcp p1 p2 hsl2 hsl hqu hne hrd hr0 hr0' a2 a3 w3 tx e3 hk hct r0
          rintro e2 H2 ⟨qb, Y, j0, j2, j3, j4, j5, j6, j10, j11, hb0, hb1, hb2, hqb, hg2, hsv⟩
          (have hF := an hp0 <| an j0 <| an j2 <| an j3 <| an j4 <| an j5 <| an j6 <| an j10 <| an j11 <| an hb0 <| an hb1 <| an hb2 <| an hqb <| hsv; have hc := trivial; repeat' (first | refine wK ?_ | refine wX ?_ | refine rR ?_ | refine rB ?_ ?_ <;> intro ht <;> try simp only [bbs] at ht | refine rG ?_ ?_ <;> intro hc | refine rZ ?_ | refine wQ ?_))
          all_goals try simp only [Bool.not_eq_true', Bool.not_eq_true, beq_eq_false_iff_ne, ne_eq, decide_eq_decide, decide_eq_true_eq, decide_eq_false_iff_not, Bool.not_eq_false', Bool.not_eq_false, beq_iff_eq, Classical.not_not, decide_not] at *
          all_goals first
            | (rw [hbd (by omega)]; exact dirty rfl)
            | skip
          all_goals
            refine (show ∃ (p : Nat) (k : Int) (w : List Int), _ from ⟨endA l, t', quA l, ?_⟩)
            simp only [upd_eq, put, Nat.reduceEqDiff, if_false, if_true]
            exact ⟨j0, j2, j3, j4, by rw [j5]; exact Fz.dz (bytesL_fz 10 _), j6, trivial, hb0, hb1, hb2, hg2, q3, hgo (by omega), hql3, hqw⟩
    rintro ⟨e, H⟩ ⟨p, kt, w, h0, h2, h3, h4, hY, h6, h7, hh0, hh1, hh2, hg, hpl0, hsr2, hwl, hwb⟩
    simp only at h0 h2 h3 h4 hY h6 h7 hh0 hh1 hh2 hg
    show Wp _ _ _ _ _ _
    have hraq : raX l = (match fiT l kt w (rdR l kt 5 p []) with | some rs => arA 0 (num2n l 0) (num1 l 3) (ctA l) rs | none => arA 5 0 0 false []) := by
      rw [fiS_T] at hsr2
      unfold raX
      rw [if_pos hsz, ← hsr, hsr2]
    (have hF := hp0; have hc := trivial; repeat' (first | refine wK ?_ | refine wX ?_ | refine rR ?_ | refine rB ?_ ?_ <;> intro ht <;> try simp only [bbs] at ht | refine rG ?_ ?_ <;> intro hc | refine rZ ?_ | refine wQ ?_))
    refine wLoop (fun k s => ∃ (j : Nat) (pp : Nat) (acc : List RecordM) (x : AV) (f : Nat), j + k = 5 ∧ s.1 0 = bytesL l ∧ s.1 2 = .ptr 0 0 ∧ s.1 3 = .ptr 1 0 ∧ s.1 4 = .ptr 2 0 ∧ s.1 6 = .v (.int .i64 (pp : Nat)) ∧ s.1 7 = .v (.int .i64 kt) ∧ (Dz 12 (s.1 5) (bytesL w)) ∧ (s.2.h 0 = some [.v (.int .i64 0), .v (.int .i64 0), .v (.int .i64 0), .v (.bool false), .v (.slice none 0 0)]) ∧ (s.2.h 1 = some [.v (.int .i64 5), .v (.int .i64 0), .v (.int .i64 0), .v (.bool false), .v (.slice none 0 0)]) ∧ (s.2.h 2 = some [.v (.int .i64 0), .v (.int .i64 (num2n l 0)), .v (.int .i64 (num1 l 3)), .v (.bool (ctA l)), x]) ∧ (RAcc s.2 x 3 (acc.map encRecord).flatten acc.length) ∧ (2 < s.2.g) ∧ (∀ b, b < 3 → Off b x) ∧ (pp ≤ l.length) ∧ (rdR l kt 5 p [] = rdR l kt f pp acc) ∧ (f + j = 5 ∧ acc.length = j) ∧ ((acc.length : Int) ≤ lastN acc + 1 ∧ lastN acc ≤ 3) ∧ (∀ r ∈ acc, recOk r)) (fun k s hI => ?_) (5) _ ?_
    rotate_left
    · refine ⟨0, p, [], .v (.slice none 0 0), 5, by omega, h0, h2, h3, h4, h6, h7, hY, hh0, hh1, hh2, RAcc.nil, hg, fun b _ => off_nil, hpl0, rfl, by simp, by simp [lastN], by simp⟩
    · obtain ⟨e, H⟩ := s
      obtain ⟨j, pp, acc, x, f, hj, h0, h2, h3, h4, h6, h7, hq5, b0, b1, b2, hr, hgg, hoff, hpl, hfu, hfa, hla, hro⟩ := hI
      simp only at h0 h2 h3 h4 h6 h7 hq5 b0 b1 b2 hr hgg hoff hpl hfu hfa hla hro
      have g0 : (0 = H.g) = False := eq_false (by omega)
      have g1 : (1 = H.g) = False := eq_false (by omega)
      have g2 : (2 = H.g) = False := eq_false (by omega)
      rw [hfu] at hraq
      obtain ⟨f, rfl⟩ : ∃ f', f = f' + 1 := ⟨f - 1, by omega⟩
      by_cases hlt : pp < l.length
      · have hltI : ((pp : Nat) : Int) < (l.length : Int) := by omega
        have hbk := c_sl10Back l hb hl pp hpl
        unfold bkR encRecord at hbk
        rw [rdR, if_neg (show ¬ l.length ≤ pp by omega)] at hraq
        cases hok : bkOk l pp with
        | false =>
          have hnone : ¬ (typB kt = true ∧ okAt l pp kt = true ∧ lastN acc < (recAt l pp kt).Node) := fun x => by
            have := (bk_ok hb).2 ⟨x.1, x.2.1⟩
            rw [hok] at this; simp at this
          rw [if_neg hnone] at hraq
          rw [hok] at hbk
          rw [hraq]
          (have hF := an hp0 <| an h0 <| an h2 <| an h3 <| an h4 <| an h6 <| an h7 <| an hltI <| an hbk <| an g0 <| an g1 <| an g2 <| an b0 <| an b1 <| b2; have hc := trivial; repeat' (first | refine wK ?_ | refine wX ?_ | refine rR ?_ | refine rB ?_ ?_ <;> intro ht <;> try simp only [bbs] at ht | refine rG ?_ ?_ <;> intro hc | refine rZ ?_ | refine wQ ?_))
          all_goals try exact False.elim kk
          all_goals exact dirty rfl
        | true =>
          have hk0 := hok
          simp only [bkOk, Bool.and_eq_true, decide_eq_true_eq] at hk0
          obtain ⟨k1, k2, k3, k4, -⟩ := hk0
          have hrc := bk_rec k1 k2 k3
          rw [hok, hrc, if_pos rfl] at hbk
          rw [hrc] at k4
          have hTy : (recAt l pp (bkT l pp)).Type_ = bkT l pp := recAt_ty
          have hno := inB_t.1 k4
          by_cases hT : bkT l pp = kt
          rotate_left
          · have hTF : (bkT l pp = kt) = False := eq_false hT
            have hnone : ¬ (typB kt = true ∧ okAt l pp kt = true ∧ lastN acc < (recAt l pp kt).Node) := fun x => hT ((bk_ok hb).2 ⟨x.1, x.2.1⟩).2
            rw [if_neg hnone] at hraq
            rw [hraq]
            (have hF := an hp0 <| an h0 <| an h2 <| an h3 <| an h4 <| an h6 <| an h7 <| an hltI <| an hbk <| an g0 <| an g1 <| an g2 <| an b0 <| an b1 <| an b2 <| an hTy <| hTF; have hc := trivial; repeat' (first | refine wK ?_ | refine wX ?_ | refine rR ?_ | refine rB ?_ ?_ <;> intro ht <;> try simp only [bbs] at ht | refine rG ?_ ?_ <;> intro hc | refine rZ ?_ | refine wQ ?_))
            all_goals try exact False.elim kk
            all_goals exact dirty rfl
          obtain ⟨hty, hoa⟩ := (bk_ok hb).1 ⟨hok, hT⟩
          have hrok := recAt_ok hb hty (by rw [← hT]; exact k4)
          have hpl2 : pp + bkW l pp ≤ l.length := k2
          have hW : bkW l pp = (recB (recAt l pp kt)).length := by
            rw [recW, recAt_ty]; unfold bkW; rw [hT]
            rcases typ_or hty with h | h <;> simp [h]
          have hTT : (bkT l pp = kt) = True := eq_true hT
          have hbk' := hbk
          rw [hT] at hbk hTy hno
          have hcv : ∀ x : AV, encRecord (recAt l pp kt) = [.v (.int .i64 kt), .v (.int .i64 (recAt l pp kt).Node), .v (.int .i64 (recAt l pp kt).Port)] := fun _ => by unfold encRecord; rw [hTy]
          by_cases hord : lastN acc < (recAt l pp kt).Node
          rotate_left
          · rw [if_neg (fun x => hord x.2.2)] at hraq
            rw [hraq]
            rcases List.eq_nil_or_concat acc with hr0 | ⟨acc0, r0, hr0⟩
            · exfalso; rw [hr0] at hord; simp [lastN] at hord; omega
            rw [List.concat_eq_append] at hr0
            have hln : lastN acc = r0.Node := by rw [hr0, lastN_snoc]
            have hal : acc.length = acc0.length + 1 := by rw [hr0]; simp
            obtain ⟨bx, hbx, hxe, hbc⟩ := RAcc.slE hr (by omega)
            have hcell := rec_cell hr0
            have wn : IntKind.wrap .i64 (((acc.length : Nat) : Int) - 1) = ((acc0.length : Nat) : Int) := by rw [wrap_i64 (by omega) (by omega)]; omega
            have hn0 : (0 : Int) < ((acc.length : Nat) : Int) := by omega
            have hge : (recAt l pp kt).Node ≤ r0.Node := by omega
            have hlt2 : (acc0.length < acc.length) = True := eq_true (by omega)
            have gx : (bx = H.g) = False := eq_false (by omega)
            subst hxe
            (have hF := an hp0 <| an h0 <| an h2 <| an h3 <| an h4 <| an h6 <| an h7 <| an hltI <| an hbk <| an g0 <| an g1 <| an g2 <| an gx <| an b0 <| an b1 <| an b2 <| an hbc <| an hTy <| an hTT <| an wn <| an hn0 <| an hlt2 <| an hcell <| an hge <| @Option.isSome_some.{0}; have hc := trivial; repeat' (first | refine wK ?_ | refine wX ?_ | refine rR ?_ | refine rB ?_ ?_ <;> intro ht <;> try simp only [bbs] at ht | refine rG ?_ ?_ <;> intro hc | refine rZ ?_ | refine wQ ?_))
            all_goals try exact False.elim kk
            all_goals exact dirty rfl
          rw [if_pos ⟨hty, hoa, hord⟩] at hraq
          rcases List.eq_nil_or_concat acc with hr0 | ⟨acc0, r0, hr0⟩
          case' inl =>
            have hlen0 := hr.len
            have hn0 : ((acc.length : Nat) : Int) = 0 := by rw [hr0]; rfl
            (have hF := an hp0 <| an h0 <| an h2 <| an h3 <| an h4 <| an h6 <| an h7 <| an hltI <| an hbk <| an g0 <| an g1 <| an g2 <| an b0 <| an b1 <| an b2 <| an hTy <| an hTT <| an hlen0 <| an hn0 <| not_true_eq_false; have hc := trivial; repeat' ((fail_if_success (first | refine wAt 22 ?_ | refine wAtL 22 ?_)); first | refine wK ?_ | refine wX ?_ | refine rR ?_ | refine rB ?_ ?_ <;> intro ht <;> try simp only [bbs] at ht | refine rG ?_ ?_ <;> intro hc | refine rZ ?_ | refine wQ ?_))
            all_goals try exact False.elim kk
          case' inr =>
            rw [List.concat_eq_append] at hr0
            have hln : lastN acc = r0.Node := by rw [hr0, lastN_snoc]
            have hal : acc.length = acc0.length + 1 := by rw [hr0]; simp
            obtain ⟨bx, hbx, hxe, hbc⟩ := RAcc.slE hr (by omega)
            have hcell := rec_cell hr0
            have wn : IntKind.wrap .i64 (((acc.length : Nat) : Int) - 1) = ((acc0.length : Nat) : Int) := by rw [wrap_i64 (by omega) (by omega)]; omega
            have hn0 : (0 : Int) < ((acc.length : Nat) : Int) := by omega
            have hge : ¬ (recAt l pp kt).Node ≤ r0.Node := by omega
            have hlt2 : (acc0.length < acc.length) = True := eq_true (by omega)
            have gx : (bx = H.g) = False := eq_false (by omega)
            subst hxe
            (have hF := an hp0 <| an h0 <| an h2 <| an h3 <| an h4 <| an h6 <| an h7 <| an hltI <| an hbk <| an g0 <| an g1 <| an g2 <| an gx <| an b0 <| an b1 <| an b2 <| an hbc <| an hTy <| an hTT <| an wn <| an hn0 <| an hlt2 <| an hcell <| an hge <| an @Option.isSome_some.{0} <| not_true_eq_false; have hc := trivial; repeat' ((fail_if_success (first | refine wAt 22 ?_ | refine wAtL 22 ?_)); first | refine wK ?_ | refine wX ?_ | refine rR ?_ | refine rB ?_ ?_ <;> intro ht <;> try simp only [bbs] at ht | refine rG ?_ ?_ <;> intro hc | refine rZ ?_ | refine wQ ?_))
            all_goals try exact False.elim kk
          all_goals
            refine wAt 22 ?_
            have hS := an h0 <| an h2 <| an h3 <| an h4 <| an h6 <| h7; refine wEnv (fun e2 => e2 0 = bytesL l ∧ e2 2 = .ptr 0 0 ∧ e2 3 = .ptr 1 0 ∧ e2 4 = .ptr 2 0 ∧ e2 6 = .v (.int .i64 (pp : Nat)) ∧ e2 7 = .v (.int .i64 kt) ∧ e2 12 = .ptr H.g 0 ∧ e2 13 = .v (.int .i64 ((pp + bkW l pp : Nat) : Int)) ∧ e2 5 = e 5) ⟨sl, sl, sl, sl, sl, sl, sl, sl, sl⟩ (fun e hY => ?_); obtain ⟨h0, h2, h3, h4, h6, h7, h12, h13, h5⟩ := hY
            have hF := an hp0 <| an h4 <| an h12 <| an g0 <| an g1 <| an g2 <| b2; have hc := trivial; (try refine wX ?_); refine rN (fun xx hx => ?_); generalize hq : aappend Tryz.prog _ _ _ _ = q at hx
            have he : Ext H ((H.new [.v (.int .i64 0), .v (.int .i64 0), .v (.int .i64 0)]).set H.g [.v (.int .i64 kt), .v (.int .i64 (recAt l pp kt).Node), .v (.int .i64 (recAt l pp kt).Port)]) := ((Ext.refl H).new _).set (Nat.le_refl _) _
            obtain ⟨x', H', rfl, hacc', hg', hk2, ho2⟩ := app_rows hq el39 zero86 by86 int39 (sz := 3) rfl (by omega) (hr.ext he) (m := 1) rfl (afirst_one _ _ [.v (.int .i64 kt), .v (.int .i64 (recAt l pp kt).Node), .v (.int .i64 (recAt l pp kt).Port)]) rfl (by omega) (by omega)
            have hlt3 : ∀ b, b < 3 → b < ((H.new [.v (.int .i64 0), .v (.int .i64 0), .v (.int .i64 0)]).set H.g [.v (.int .i64 kt), .v (.int .i64 (recAt l pp kt).Node), .v (.int .i64 (recAt l pp kt).Port)]).g := fun b hb => by simp; omega
            have e0 := hk2 0 (hlt3 0 (by omega)) (hoff 0 (by omega))
            have e1 := hk2 1 (hlt3 1 (by omega)) (hoff 1 (by omega))
            have e2 := hk2 2 (hlt3 2 (by omega)) (hoff 2 (by omega))
            simp only [Hp.set_h, Hp.new_h, g0, g1, g2, if_false, b0, b1, b2] at e0 e1 e2
            have hx' := hacc'.one
            clear hq
            (subst hx; have hF := an hp0 <| an h4 <| an e2 <| an hx'.1 <| hx'.2; have hc := trivial; repeat' (first | refine rR ?_ | refine rG ?_ ?_ <;> intro hc | refine rZ ?_ | fail))
            (have hF := an hp0 <| h13; have hc := trivial; repeat' (first | refine wK ?_ | refine wX ?_ | refine rR ?_ | refine rB ?_ ?_ <;> intro ht <;> try simp only [bbs] at ht | refine rG ?_ ?_ <;> intro hc | refine rZ ?_ | refine wQ ?_))
            have hflat : (acc.map encRecord).flatten ++ [.v (.int .i64 kt), .v (.int .i64 (recAt l pp kt).Node), .v (.int .i64 (recAt l pp kt).Port)] = ((acc ++ [recAt l pp kt]).map encRecord).flatten := by rw [flat_snoc, hcv x']
            rw [hflat] at hacc'
            have hlen1 : (acc ++ [recAt l pp kt]).length = acc.length + 1 := by simp
            have hS := an h0 <| an h2 <| an h3 <| an h4 <| an h6 <| h7; refine ⟨_, Nat.sub_lt (by omega) Nat.one_pos, j + 1, (pp + bkW l pp), (acc ++ [recAt l pp kt]), x', f, by omega, sl, sl, sl, sl, sl, sl, ?_⟩
            refine ⟨?_, ?_, ?_, ?_, ?_, ?_, ?_, hpl2, ?_, ?_, ?_, ?_⟩
            · simp only [upd_eq, Nat.reduceEqDiff, if_false, if_true, h5]; exact hq5
            · simp only [Hp.set_h, Nat.reduceEqDiff, if_false]; exact e0
            · simp only [Hp.set_h, Nat.reduceEqDiff, if_false]; exact e1
            · simp only [Hp.set_h, if_true]
            · rw [hlen1]; exact hacc'.setOff (ho2 2 (hlt3 2 (by omega)) (hoff 2 (by omega))) _
            · exact Nat.lt_of_lt_of_le (by simp; omega) hg'
            · exact fun b hb => ho2 b (hlt3 b hb) (hoff b hb)
            · rw [hfu, rdR, if_neg (show ¬ l.length ≤ pp by omega), if_pos ⟨hty, hoa, hord⟩, hW]
            · rw [hlen1]; omega
            · rw [hlen1, lastN_snoc]; omega
            · intro r hr'
              rcases List.mem_append.1 hr' with h | h
              · exact hro r h
              · simp only [List.mem_singleton] at h; subst h; exact hrok
      · have hltI : ¬ ((pp : Nat) : Int) < (l.length : Int) := by omega
        rw [rdR, if_pos (show l.length ≤ pp by omega)] at hraq
        (have hF := an hp0 <| an h0 <| an h6 <| hltI; have hc := trivial; repeat' ((fail_if_success (first | refine wAt 24 ?_ | refine wAtL 24 ?_)); first | refine wK ?_ | refine wX ?_ | refine rR ?_ | refine rB ?_ ?_ <;> intro ht <;> try simp only [bbs] at ht | refine rG ?_ ?_ <;> intro hc | refine rZ ?_ | refine wQ ?_))
        refine wAt 24 ?_
        refine wSeq ?_
        refine wMid (fun s => s.1 0 = bytesL l ∧ s.1 2 = .ptr 0 0 ∧ s.1 3 = .ptr 1 0 ∧ s.1 4 = .ptr 2 0 ∧ s.1 7 = .v (.int .i64 kt) ∧ s.1 5 = e 5 ∧ s.1 15 = .v (.bool (riA l acc)) ∧ s.2 = H) ?_ ?_
        · have hlen := hr.len
          have hAL : decide (acc = []) = decide (((acc.length : Nat) : Int) = 0) := decide_eq_decide.2 ⟨fun h => by rw [h]; rfl, fun h => List.length_eq_zero_iff.1 (by omega)⟩
          (have hF := an hp0 <| an h0 <| an h2 <| an h3 <| an h4 <| an h7 <| an b2 <| hlen; have hc := trivial; repeat' (first | refine wK ?_ | refine wX ?_ | refine rR ?_ | refine rB ?_ ?_ <;> intro ht <;> try simp only [bbs] at ht | refine rG ?_ ?_ <;> intro hc | refine rZ ?_ | refine wQ ?_))
          all_goals
            show (_ = _) ∧ (_ = _) ∧ (_ = _) ∧ (_ = _) ∧ (_ = _) ∧ (_ = _) ∧ (_ = _) ∧ (_ = _)
            simp only [upd_eq, put, Nat.reduceEqDiff, if_false, if_true]
            refine ⟨h0, h2, h3, h4, h7, trivial, congrArg (fun b => AV.v (.bool b)) ?_, trivial⟩
            unfold riA
            rw [hAL]
            clear hraq hfu hfa hr b2 hlen
            generalize decide (((acc.length : Nat) : Int) = 0) = zz at *
            clear hAL
            simp [*]
        have hCH : call Tryz.prog cfg0 0 58 [bytesL l, .v (.int .i64 kt), x] H = some (.v (.bool (cutB l kt acc)), H) :=
          call_of Tryz.func58 rfl ok_sl10CutHere rfl (by omega) (mapM_c (fz_deep (fz_bytes l) H) (mapM_c rfl (mapM_c (deep_racc (d := 11) hr rfl (by omega) (fun _ => rfl) (fun k => fzE_Record 10 k)) mapM_n))) (p_sl10CutHere l hl kt acc (by omega)) (.inl rfl)
        obtain ⟨a, b, h2t⟩ := take_two (l := l) (by omega)
        have hAn : call Tryz.prog cfg0 0 48 [bytesL [a, b], .v (.int .i64 (num1 l 3)), .v (.bool (ctA l)), e 5, x] H = some (bytesL (ansB [a, b] (num1 l 3) (ctA l) w acc), H) :=
          call_of Tryz.func48 rfl ok_sl10Answer rfl (by omega) (mapM_c (fz_deep (fz_bytes [a, b]) H) (mapM_c rfl (mapM_c rfl (mapM_c (hq5.1 H) (mapM_c (deep_racc (d := 11) hr rfl (by omega) (fun _ => rfl) (fun k => fzE_Record 10 k)) mapM_n))))) (p_sl10Answer a b w (num1 l 3) (ctA l) acc (by omega) (by omega) b3 hro) (.inl rfl)
        clear h0 h2 h3 h4 h6 h7
        rintro ⟨e2, H2⟩ ⟨h0, h2, h3, h4, h7, h5, h15, hH⟩
        simp only at h0 h2 h3 h4 h7 h5 h15 hH
        subst hH
        show Wp _ _ _ _ _ _
        cases hri : riA l acc with
        | false =>
          rw [hri] at h15
          rw [show fiT l kt w (some acc) = none by unfold fiT; simp [hri]] at hraq
          rw [hraq]
          (have hF := an hp0 <| an h0 <| an h2 <| an h3 <| an h4 <| an h7 <| an h15 <| an b0 <| an b1 <| b2; have hc := trivial; repeat' (first | refine wK ?_ | refine wX ?_ | refine rR ?_ | refine rB ?_ ?_ <;> intro ht <;> try simp only [bbs] at ht | refine rG ?_ ?_ <;> intro hc | refine rZ ?_ | refine wQ ?_))
          all_goals try exact False.elim kk
          all_goals exact dirty rfl
        | true =>
          rw [hri] at h15
          have hsl2 : (2 ≤ l.length) = True := eq_true (by omega)
          have cvb := conv_bytesL u22 u9 u5
          have hse := strOf_eq (ansB_bytes (st := num1 l 3) (cut := ctA l) (bytes_two hb h2t) hwb (by omega) hro : Eng.Bytes (ansB [a, b] (num1 l 3) (ctA l) w acc)) hb
          have hfi : fiT l kt w (some acc) = if (ctA l = true → cutB l kt acc = true) ∧ ansB [a, b] (num1 l 3) (ctA l) w acc = l then some acc else none := by
            unfold fiT; simp only [hri, h2t, true_and]
          rw [hfi] at hraq
          have hdr : deep H2 11 x = some (.lst false (acc.map encRecord)) := deep_racc (d := 10) hr rfl (by omega) (fun _ => rfl) (fun k => fzE_Record 9 k)
          have hx1 := hr.one
          clear hfi hri hct hsr hsr2 hfu
          generalize ctA l = ct at *
          by_cases hcc : ct = true → cutB l kt acc = true
          rotate_left
          · have hc1 : ct = true := by cases ct <;> simp_all
            have hc2 : cutB l kt acc = false := by cases h : cutB l kt acc <;> simp_all
            rw [if_neg (fun x => hcc x.1)] at hraq
            rw [hraq]
            subst hc1
            rw [hc2] at hCH
            (have hF := an hp0 <| an h0 <| an h2 <| an h3 <| an h4 <| an h7 <| an h15 <| an b0 <| an b1 <| an b2 <| hCH; have hc := trivial; repeat' (first | refine wK ?_ | refine wX ?_ | refine rR ?_ | refine rB ?_ ?_ <;> intro ht <;> try simp only [bbs] at ht | refine rG ?_ ?_ <;> intro hc | refine rZ ?_ | refine wQ ?_))
            all_goals try exact False.elim kk
            all_goals exact dirty rfl
          by_cases he : ansB [a, b] (num1 l 3) ct w acc = l
          · rw [if_pos ⟨hcc, he⟩] at hraq
            rw [decide_eq_true he] at hse
            rw [hraq]
            cases ct with
            | true =>
              rw [hcc rfl] at hCH
              (have hF := an hp0 <| an h0 <| an h2 <| an h3 <| an h4 <| an h7 <| an h5 <| an h15 <| an b0 <| an b1 <| an b2 <| an hCH <| an hAn <| an hsl2 <| an Nat.zero_le <| an Nat.sub_zero <| an h2t <| an cvb <| an hse <| an hx1.1 <| hx1.2; have hc := trivial; repeat' (first | refine wK ?_ | refine wX ?_ | refine rR ?_ | refine rB ?_ ?_ <;> intro ht <;> try simp only [bbs] at ht | refine rG ?_ ?_ <;> intro hc | refine rZ ?_ | refine wQ ?_))
              all_goals try exact False.elim kk
              all_goals exact dirty (deep_aggL (n := 11) (mapM_c rfl (mapM_c rfl (mapM_c rfl (mapM_c rfl (mapM_c (deep_racc (d := 10) (hr.setOff (hoff 0 (by omega)) _) rfl (by omega) (fun _ => rfl) (fun k => fzE_Record 9 k)) mapM_n))))))
            | false =>
              (have hF := an hp0 <| an h0 <| an h2 <| an h3 <| an h4 <| an h7 <| an h5 <| an h15 <| an b0 <| an b1 <| an b2 <| an hAn <| an hsl2 <| an Nat.zero_le <| an Nat.sub_zero <| an h2t <| an cvb <| an hse <| an hx1.1 <| hx1.2; have hc := trivial; repeat' (first | refine wK ?_ | refine wX ?_ | refine rR ?_ | refine rB ?_ ?_ <;> intro ht <;> try simp only [bbs] at ht | refine rG ?_ ?_ <;> intro hc | refine rZ ?_ | refine wQ ?_))
              all_goals try exact False.elim kk
              all_goals exact dirty (deep_aggL (n := 11) (mapM_c rfl (mapM_c rfl (mapM_c rfl (mapM_c rfl (mapM_c (deep_racc (d := 10) (hr.setOff (hoff 0 (by omega)) _) rfl (by omega) (fun _ => rfl) (fun k => fzE_Record 9 k)) mapM_n))))))
          · rw [if_neg (fun x => he x.2)] at hraq
            rw [decide_eq_false he] at hse
            rw [hraq]
            cases ct with
            | true =>
              rw [hcc rfl] at hCH
              (have hF := an hp0 <| an h0 <| an h2 <| an h3 <| an h4 <| an h7 <| an h5 <| an h15 <| an b0 <| an b1 <| an b2 <| an hCH <| an hAn <| an hsl2 <| an Nat.zero_le <| an Nat.sub_zero <| an h2t <| an cvb <| hse; have hc := trivial; repeat' (first | refine wK ?_ | refine wX ?_ | refine rR ?_ | refine rB ?_ ?_ <;> intro ht <;> try simp only [bbs] at ht | refine rG ?_ ?_ <;> intro hc | refine rZ ?_ | refine wQ ?_))
              all_goals try exact False.elim kk
              all_goals exact dirty rfl
            | false =>
              (have hF := an hp0 <| an h0 <| an h2 <| an h3 <| an h4 <| an h7 <| an h5 <| an h15 <| an b0 <| an b1 <| an b2 <| an hAn <| an hsl2 <| an Nat.zero_le <| an Nat.sub_zero <| an h2t <| an cvb <| hse; have hc := trivial; repeat' (first | refine wK ?_ | refine wX ?_ | refine rR ?_ | refine rB ?_ ?_ <;> intro ht <;> try simp only [bbs] at ht | refine rG ?_ ?_ <;> intro hc | refine rZ ?_ | refine wQ ?_))
              all_goals try exact False.elim kk
              all_goals exact dirty rfl
  obtain ⟨v, cl, rfl, hp⟩ := key
  exact ⟨cl, hp⟩
theorem c_sReadAnswer (l : List Int) (hb : Eng.Bytes l) (hl : l.length ≤ 1048576) : ∀ H, call Tryz.prog cfg0 0 16 [bytesL l] H = some (raX l, H) := fun H => by
  obtain ⟨cl, hp⟩ := p_sReadAnswer l hb hl
  exact call_fz Tryz.func16 rfl ok_sReadAnswer rfl (by simp only [fz_cons, fz_nil, go_sem, and_self]) hp H

end
end Go.Proofs.YtnejoidfbgklbaaGreatDoor
