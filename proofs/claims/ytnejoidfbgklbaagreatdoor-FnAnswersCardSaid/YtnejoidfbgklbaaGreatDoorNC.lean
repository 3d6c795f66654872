/- Contracts: queries into bytes, the program's side. Contracts: queries read, the program's side. Contracts: queries into bytes, and read, the reference's side. Contracts: queries into bytes, the reference's side. Contracts: queries read, the reference's side. -/
import Derived.Test.YtnejoidfbgklbaaGreatDoorNB
namespace Go.Proofs.YtnejoidfbgklbaaGreatDoor
open Go Go.RowKit Go.Proofs.YtnejoidfbgklbaaGreatDoor.Eng
set_option linter.unusedSimpArgs false
set_option linter.unusedVariables false
set_option maxRecDepth 100000
set_option maxHeartbeats 2000000
noncomputable section
def shB (ns : List Int) (j : Nat) : List Int := ((ns.take j).map fun n => wordL n 2).flatten
theorem shB_succ {ns : List Int} {j : Nat} {n : Int} (h : ns[j]? = some n) : shB ns (j + 1) = shB ns j ++ wordL n 2 := by
  unfold shB
  rw [List.take_add_one, h]
  simp
theorem shB_len (ns : List Int) (j : Nat) : (shB ns j).length ≤ 2 * ns.length := by
  have key : ∀ l : List Int, ((l.map fun n => wordL n 2).flatten).length = 2 * l.length := by
    intro l
    induction l with
    | nil => rfl
    | cons a r ih => simp only [List.map_cons, List.flatten_cons, List.length_append, wordL_len, ih, List.length_cons]; omega
  unfold shB
  rw [key, List.length_take]; omega
theorem ok_ishorts : fnOk Tryz.prog cfg0 30 Tryz.f30 = true := by kernel_rfl
theorem pq_ishorts (ns : List Int) (hk : ns.length ≤ 100 ∧ ∀ n ∈ ns, 0 ≤ n ∧ n ≤ 9223372036854775807) : pure Tryz.prog cfg0 30 Tryz.f30 [i64L ns] = some (bytesL (shB ns ns.length), true) ∧ owned Tryz.prog cfg0 30 Tryz.f30 [i64L ns] = some (bytesL (shB ns ns.length)) := by
  refine both_wp (rs := [.tmp 2]) rfl rfl ?_
  have hp0 : ∀ b, cfg0.pol 30 b = 0 := fun b => rfl
  (have hF := hp0; have hc := trivial; repeat' (first | refine wK ?_ | refine wX ?_ | refine rR ?_ | refine rB ?_ ?_ <;> intro ht <;> try simp only [bbs] at ht | refine rG ?_ ?_ <;> intro hc | refine rZ ?_ | refine wQ ?_))
  all_goals try exact False.elim kk
  refine wLoop (fun k s => ∃ (j : Nat) (x : AV), j + k = ns.length ∧ s.1 3 = x ∧ s.1 6 = i64L ns ∧ s.1 7 = .v (.int .i64 (ns.length : Nat)) ∧ s.1 8 = .v (.int .i64 (j : Nat)) ∧ (RAcc s.2 x 1 ((shB ns j).map cell) (shB ns j).length)) (fun k s hI => ?_) (ns.length) _ ?_
  · obtain ⟨e, H⟩ := s
    obtain ⟨j, x, hj, h3, h6, h7, h8, hr⟩ := hI
    simp only at h3 h6 h7 h8 hr
    have hk1 := hk.1
    have hll := shB_len ns j
    by_cases hlt : j < ns.length
    · have hltI : ((j : Nat) : Int) < (ns.length : Int) := by omega
      obtain ⟨n, hg, -, hm⟩ := at_drop hlt
      have hg' : (ns.map fun z => [icell z])[j]? = some [icell n] := by rw [List.getElem?_map, hg]; rfl
      have hw := c_iword n 2 2 rfl (hk.2 n hm) (by omega)
      have w1 : IntKind.wrap .i64 (((j : Nat) : Int) + 1) = ((j + 1 : Nat) : Int) := wrap_succ (by omega)
      have hwl := wordL_len n 2
      (have hF := an hp0 <| an h6 <| an h7 <| an h8 <| an hltI <| hg; have hc := trivial; repeat' ((fail_if_success (first | refine wAt 5 ?_ | refine wAtL 5 ?_)); first | refine wK ?_ | refine wX ?_ | refine rR ?_ | refine rB ?_ ?_ <;> intro ht <;> try simp only [bbs] at ht | refine rG ?_ ?_ <;> intro hc | refine rZ ?_ | refine wQ ?_))
      all_goals try exact False.elim kk
      have hF := an hp0 <| an h3 <| hw; have hc := trivial; (try refine wX ?_); refine rN (fun xx hx => ?_); generalize hq : aappend Tryz.prog _ _ _ _ = q at hx
      obtain ⟨x1, K1, rfl, hac1, hg1, hk1', ho1⟩ := app_rows hq el22 zero5 by5 int22 (sz := 1) rfl (by omega) hr (alen_bytes _) (afirst_bytes _ _) (by simp) (by omega) (by omega)
      clear hq
      (subst hx; have hF := hp0; have hc := trivial; repeat' (first | refine rR ?_ | refine rG ?_ ?_ <;> intro hc | refine rZ ?_ | fail))
      (have hF := an hp0 <| an h8 <| w1; have hc := trivial; repeat' (first | refine wK ?_ | refine wX ?_ | refine rR ?_ | refine rB ?_ ?_ <;> intro ht <;> try simp only [bbs] at ht | refine rG ?_ ?_ <;> intro hc | refine rZ ?_ | refine wQ ?_))
      all_goals try exact False.elim kk
      have hS := an h3 <| an h6 <| an h7 <| h8; refine ⟨_, Nat.sub_lt (by omega) Nat.one_pos, j + 1, x1, by omega, sl, sl, sl, sl, ?_⟩
      rw [shB_succ hg, List.map_append, List.length_append]
      exact hac1
    · have hltI : ¬ ((j : Nat) : Int) < (ns.length : Int) := by omega
      have hj : j = ns.length := by omega
      subst hj
      (have hF := an hp0 <| an h3 <| an h6 <| an h7 <| an h8 <| hltI; have hc := trivial; repeat' (first | refine wK ?_ | refine wX ?_ | refine rR ?_ | refine rB ?_ ?_ <;> intro ht <;> try simp only [bbs] at ht | refine rG ?_ ?_ <;> intro hc | refine rZ ?_ | refine wQ ?_))
      all_goals try exact False.elim kk
      exact gO_bytesR hr
  · refine ⟨0, .v (.slice none 0 0), by omega, rfl, rfl, rfl, rfl, ?_⟩
    exact RAcc.nil
theorem p_ishorts (ns : List Int) (hk : ns.length ≤ 100 ∧ ∀ n ∈ ns, 0 ≤ n ∧ n ≤ 9223372036854775807) : pure Tryz.prog cfg0 30 Tryz.f30 [i64L ns] = some (bytesL (shB ns ns.length), true) := (pq_ishorts ns hk).1
theorem sh_dz {xs : List (List AV)} {ns : List Int} (e : xs = ns.map fun z => [icell z]) (hk : ns.length ≤ 100 ∧ ∀ n ∈ ns, 0 ≤ n ∧ n ≤ 9223372036854775807) (H : Hp) : call Tryz.prog cfg0 0 30 [.lst true xs] H = some (bytesL (shB ns ns.length), H) := by
  subst e
  have hz : Dzs depthD [.lst true (ns.map fun z => [icell z])] [i64L ns] := Dzs.cons (Dz.lst (n := 11) fun c hc x hx => by
    obtain ⟨z, -, rfl⟩ := List.mem_map.1 hc
    simp only [List.mem_singleton] at hx; subst hx; exact Fz.int _ _ _) Dzs.nil
  exact call_dz Tryz.func30 rfl ok_ishorts rfl hz (p_ishorts ns hk) H
theorem sh1 (n : Int) (hn : 0 ≤ n ∧ n ≤ 9223372036854775807) : ∀ H, call Tryz.prog cfg0 0 30 [.lst true [[.v (.int .i64 n)]]] H = some (bytesL (wordL n 2), H) := fun H => by
  refine (sh_dz (ns := [n]) (xs := [[.v (.int .i64 n)]]) rfl ⟨by simp, by simpa using hn⟩ H).trans ?_
  simp [shB]
theorem sh2 (n m : Int) (hn : 0 ≤ n ∧ n ≤ 9223372036854775807) (hm : 0 ≤ m ∧ m ≤ 9223372036854775807) : ∀ H, call Tryz.prog cfg0 0 30 [.lst true [[.v (.int .i64 n)], [.v (.int .i64 m)]]] H = some (bytesL (wordL n 2 ++ wordL m 2), H) := fun H => by
  refine (sh_dz (ns := [n, m]) (xs := [[.v (.int .i64 n)], [.v (.int .i64 m)]]) rfl ⟨by simp, by simp [hn, hm]⟩ H).trans ?_
  simp [shB]
theorem sh4 (a b c d : Int) (ha : 0 ≤ a ∧ a ≤ 9223372036854775807) (hb : 0 ≤ b ∧ b ≤ 9223372036854775807) (hc1 : 0 ≤ c ∧ c ≤ 9223372036854775807) (hd : 0 ≤ d ∧ d ≤ 9223372036854775807) : ∀ H, call Tryz.prog cfg0 0 30 [.lst true [[.v (.int .i64 a)], [.v (.int .i64 b)], [.v (.int .i64 c)], [.v (.int .i64 d)]]] H = some (bytesL (wordL a 2 ++ (wordL b 2 ++ (wordL c 2 ++ wordL d 2))), H) := fun H => by
  refine (sh_dz (ns := [a, b, c, d]) (xs := [[.v (.int .i64 a)], [.v (.int .i64 b)], [.v (.int .i64 c)], [.v (.int .i64 d)]]) rfl ⟨by simp, by simp [ha, hb, hc1, hd]⟩ H).trans ?_
  simp [shB]
theorem tx_ok (ls : List ByteArray) : okc (textsL ls) = true ∧ asCells (textsL ls) = some [textsL ls] := ⟨rfl, rfl⟩
theorem by_ok (l : List Int) : okc (bytesL l) = true ∧ asCells (bytesL l) = some [bytesL l] := ⟨rfl, rfl⟩
theorem fz_q (i : Int) (ls : List ByteArray) (t : Int) : Fz depthD (.agg [.v (.int .i64 i), textsL ls, .v (.int .i64 t)]) := Fz.agg (n := 11) fun x hx => by
  simp only [List.mem_cons, List.not_mem_nil, or_false] at hx
  rcases hx with rfl | rfl | rfl
  · exact Fz.int _ _ _
  · exact fz_rows (n := 10) (fun s x hx => by simp only [List.mem_singleton] at hx; subst hx; exact Fz.string _ _) ls
  · exact Fz.int _ _ _
theorem fz_b (c : Int) (l : List Int) : Fz depthD (.agg [.v (.int .i64 c), bytesL l]) := Fz.agg (n := 11) fun x hx => by
  simp only [List.mem_cons, List.not_mem_nil, or_false] at hx
  rcases hx with rfl | rfl
  · exact Fz.int _ _ _
  · exact bytesL_fz 9 l
theorem pack_eq (i t : Int) (ls : List ByteArray) : wordL i 2 ++ ([1, 0] ++ ((wordL 1 2 ++ (wordL 0 2 ++ (wordL 0 2 ++ wordL 0 2))) ++ (encN ls ++ (wordL t 2 ++ wordL 1 2)))) = packB i ls t := by
  have e1 : wordL 1 2 = [0, 1] := by decide
  have e0 : wordL 0 2 = [0, 0] := by decide
  rw [e1, e0]
  simp [packB, List.append_assoc]
theorem ok_iPackQuery : fnOk Tryz.prog cfg0 6 Tryz.f6 = true := by kernel_rfl
theorem p_iPackQuery (i t : Int) (ls : List ByteArray) (hi : 0 ≤ i ∧ i ≤ 65535) (htt : 0 ≤ t ∧ t ≤ 65535) (hk : labsOk ls) : ∃ cl, pure Tryz.prog cfg0 6 Tryz.f6 [.agg [.v (.int .i64 i), textsL ls, .v (.int .i64 t)]] = some (.agg [.v (.int .i64 0), bytesL (packB i ls t)], cl) := by
  have key : ∃ v cl, v = (.agg [.v (.int .i64 0), bytesL (packB i ls t)] : AV) ∧ pure Tryz.prog cfg0 6 Tryz.f6 [.agg [.v (.int .i64 i), textsL ls, .v (.int .i64 t)]] = some (v, cl) := by
    refine pure_ex (rs := [.cell 2 29]) rfl rfl ?_
    have hp0 : ∀ b, cfg0.pol 6 b = 0 := fun b => rfl
    have i1 : inB i 0 65535 = true := inB_t.2 (by omega)
    have i2 : inB t 0 65535 = true := inB_t.2 (by omega)
    have hen := c_iEncodeName ls hk
    have s1 := sh1 i (by omega)
    have s2 := sh2 t 1 (by omega) (by omega)
    have s4 := sh4 1 0 0 0 (by omega) (by omega) (by omega) (by omega)
    have hel := encN_len hk
    have tx := tx_ok ls
    have bx := by_ok (encN ls)
    have by2 := by_ok (packB i ls t)
    have hc5 := cat5 (x := bytesL (wordL i 2)) (y := .lst true [[.v (.int .u8 1)], [.v (.int .u8 0)]]) (z := bytesL (wordL 1 2 ++ (wordL 0 2 ++ (wordL 0 2 ++ wordL 0 2)))) (w := bytesL (encN ls)) (v := bytesL (wordL t 2 ++ wordL 1 2)) dzB dz2 dzB dzB dzB (by simp [wordL_len]; omega)
    rw [pack_eq] at hc5
    (have hF := an hp0 <| an c_iin <| an i1 <| an i2 <| an hen <| an s1 <| an s2 <| an s4 <| an tx.1 <| an tx.2 <| an bx.1 <| an bx.2 <| an by2.1 <| an by2.2 <| hc5; have hc := trivial; repeat' (first | refine wK ?_ | refine wX ?_ | refine rR ?_ | refine rB ?_ ?_ <;> intro ht <;> try simp only [bbs] at ht | refine rG ?_ ?_ <;> intro hc | refine rZ ?_ | refine wQ ?_))
    all_goals try exact False.elim kk
    all_goals exact dirty (fz_deep (fz_b _ _) _)
  obtain ⟨v, cl, rfl, hp⟩ := key
  exact ⟨cl, hp⟩
theorem c_iPackQuery (i t : Int) (ls : List ByteArray) (hi : 0 ≤ i ∧ i ≤ 65535) (htt : 0 ≤ t ∧ t ≤ 65535) (hk : labsOk ls) : ∀ H, call Tryz.prog cfg0 0 6 [.agg [.v (.int .i64 i), textsL ls, .v (.int .i64 t)]] H = some (.agg [.v (.int .i64 0), bytesL (packB i ls t)], H) := fun H => by
  obtain ⟨cl, hp⟩ := p_iPackQuery i t ls hi htt hk
  exact call_fz Tryz.func6 rfl ok_iPackQuery rfl (by simp only [fz_cons, fz_nil, go_sem, fz_q, and_self]) hp H

theorem ok_bEqual : fnOk Tryz.prog cfg0 35 Tryz.f35 = true := by kernel_rfl
theorem p_bEqual (a b : List Int) (ha : Eng.Bytes a) (hb : Eng.Bytes b) : pure Tryz.prog cfg0 35 Tryz.f35 [bytesL a, bytesL b] = some (.v (.bool (decide (a = b))), true) := by
  refine pure_wp (rs := [.tmp 4]) rfl rfl ?_
  have hp0 : ∀ b, cfg0.pol 35 b = 0 := fun b => rfl
  have e := strOf_eq ha hb
  (have hF := an hp0 <| an (conv_bytesL u22 u9 u5) <| e; have hc := trivial; repeat' (first | refine wK ?_ | refine wX ?_ | refine rR ?_ | refine rB ?_ ?_ <;> intro ht <;> try simp only [bbs] at ht | refine rG ?_ ?_ <;> intro hc | refine rZ ?_ | refine wQ ?_))
  all_goals try exact False.elim kk
  all_goals exact gives_boolv rfl
theorem c_bEqual (a b : List Int) (ha : Eng.Bytes a) (hb : Eng.Bytes b) : ∀ H, call Tryz.prog cfg0 0 35 [bytesL a, bytesL b] H = some (.v (.bool (decide (a = b))), H) :=
  call_fz Tryz.func35 rfl ok_bEqual rfl (by simp only [fz_cons, fz_nil, go_sem, and_self]) (p_bEqual a b ha hb)

end
end Go.Proofs.YtnejoidfbgklbaaGreatDoor
namespace Go.Proofs.YtnejoidfbgklbaaGreatDoor
open Go Go.RowKit Go.Proofs.YtnejoidfbgklbaaGreatDoor.Eng
set_option linter.unusedSimpArgs false
set_option linter.unusedVariables false
set_option maxRecDepth 100000
set_option maxHeartbeats 2000000
noncomputable section
theorem num2_b {l : List Int} (hb : Eng.Bytes l) (p : Int) : 0 ≤ num2 l p ∧ num2 l p ≤ 65535 := by
  unfold num2 readWord
  split
  · rename_i h
    have hw := bytes_sub hb p.toNat 2
    have hlen : ((l.drop p.toNat).take 2).length = 2 := by simp; omega
    have := rd_bound hw 2 (by omega)
    rw [List.take_of_length_le (by omega)] at this
    split
    · exact ⟨this.1, by have := this.2; omega⟩
    · exact ⟨by omega, by omega⟩
  · exact ⟨by omega, by omega⟩
/-- What a read query is. -/
def qrR (c i : Int) (ls : List ByteArray) (t : Int) : AV := .agg [.v (.int .i64 c), .v (.int .i64 i), textsL ls, .v (.int .i64 t)]
def rqR (l : List Int) : AV := if 12 ≤ l.length ∧ l.length ≤ 300 then (match askF l with
  | some (i, ls, t) => qrR 0 i ls t
  | none => qrR 1 0 [] 0) else qrR 2 0 [] 0
theorem fz_qr (c i : Int) (ls : List ByteArray) (t : Int) : Fz depthD (qrR c i ls t) := Fz.agg (n := 11) fun x hx => by
  simp only [List.mem_cons, List.not_mem_nil, or_false] at hx
  rcases hx with rfl | rfl | rfl | rfl
  · exact Fz.int _ _ _
  · exact Fz.int _ _ _
  · exact fz_rows (n := 10) (fun s x hx => by simp only [List.mem_singleton] at hx; subst hx; exact Fz.string _ _) ls
  · exact Fz.int _ _ _
theorem ok_iReadQuery : fnOk Tryz.prog cfg0 8 Tryz.f8 = true := by kernel_rfl
theorem p_iReadQuery (l : List Int) (hb : Eng.Bytes l) (hl : l.length ≤ 1048576) : ∃ cl, pure Tryz.prog cfg0 8 Tryz.f8 [bytesL l] = some (rqR l, cl) := by
  have key : ∃ v cl, v = (rqR l : AV) ∧ pure Tryz.prog cfg0 8 Tryz.f8 [bytesL l] = some (v, cl) := by
    refine pure_ex (rs := [.cell 2 33]) rfl rfl ?_
    have hp0 : ∀ b, cfg0.pol 8 b = 0 := fun b => rfl
    by_cases h12 : 12 ≤ l.length ∧ l.length ≤ 300
    rotate_left
    · have hin : inB (l.length : Int) 12 300 = false := inB_f.2 (by omega)
      rw [show rqR l = qrR 2 0 [] 0 from if_neg h12]
      unfold qrR
      (have hF := an hp0 <| an c_iin <| hin; have hc := trivial; repeat' (first | refine wK ?_ | refine wX ?_ | refine rR ?_ | refine rB ?_ ?_ <;> intro ht <;> try simp only [bbs] at ht | refine rG ?_ ?_ <;> intro hc | refine rZ ?_ | refine wQ ?_))
      all_goals try exact False.elim kk
      all_goals exact dirty rfl
    have hin : inB (l.length : Int) 12 300 = true := inB_t.2 (by omega)
    rw [show rqR l = (match askF l with
      | some (i, ls, t) => qrR 0 i ls t
      | none => qrR 1 0 [] 0) from if_pos h12]
    have hn0 := c_inumber l 0 2 0 2 rfl rfl hb (by omega) (by omega) hl (by omega)
    have b0 := num2_b hb 0
    have hrn := c_iReadName l hb hl
    by_cases hnm : 12 < l.length ∧ (nmR l 12 12 0 [] 0).1 = 0
    · obtain ⟨hlt, hz⟩ := hnm
      have hrr : rnR l = .agg [.v (.int .i64 0), textsL (nmR l 12 12 0 [] 0).2.1, .v (.int .i64 (nmR l 12 12 0 [] 0).2.2)] := by unfold rnR; rw [if_pos hlt, if_pos hz]
      rw [hrr] at hrn
      obtain ⟨hk, hx0, hx1⟩ := nm_ok l 12 12 0 [] 0 ⟨by simp, by simp⟩ (by simp) hz
      have hn1 := c_inumber l (nmR l 12 12 0 [] 0).2.2.toNat 2 (nmR l 12 12 0 [] 0).2.2 2 (by omega) rfl hb (by omega) (by omega) hl (by omega)
      have b1 := num2_b hb (nmR l 12 12 0 [] 0).2.2
      have hask : askF l = if packB (num2 l 0) (nmR l 12 12 0 [] 0).2.1 (num2 l (nmR l 12 12 0 [] 0).2.2) = l then some (num2 l 0, (nmR l 12 12 0 [] 0).2.1, num2 l (nmR l 12 12 0 [] 0).2.2) else none := by
        unfold askF; simp only [hz, true_and]
      have hn0' : ∀ H, call Tryz.prog cfg0 0 34 [bytesL l, .v (.int .i64 0), .v (.int .i64 2)] H = some (.tup [.v (.int .i64 (num2 l 0)), .v (.bool (decide ((readWord l 0 2).1 = 0)))], H) := hn0
      have hn1' : ∀ H, call Tryz.prog cfg0 0 34 [bytesL l, .v (.int .i64 (nmR l 12 12 0 [] 0).2.2), .v (.int .i64 2)] H = some (.tup [.v (.int .i64 (num2 l (nmR l 12 12 0 [] 0).2.2)), .v (.bool (decide ((readWord l (nmR l 12 12 0 [] 0).2.2.toNat 2).1 = 0)))], H) := hn1
      have hpk := c_iPackQuery (num2 l 0) (num2 l (nmR l 12 12 0 [] 0).2.2) (nmR l 12 12 0 [] 0).2.1 b0 b1 hk
      have hpb : Eng.Bytes (packB (num2 l 0) (nmR l 12 12 0 [] 0).2.1 (num2 l (nmR l 12 12 0 [] 0).2.2)) := by
        unfold packB
        refine bytes_app (bytes_app (bytes_app (bytes_app (wordL_bytes _ _) ?_) (encN_bytes _)) (wordL_bytes _ _)) ?_ <;> (intro z hz; simp only [List.mem_cons, List.not_mem_nil, or_false] at hz; omega)
      have heq := c_bEqual _ l hpb hb
      rw [hask]
      generalize num2 l 0 = i at *
      generalize num2 l (nmR l 12 12 0 [] 0).2.2 = t at *
      generalize (nmR l 12 12 0 [] 0).2.2 = nx at *
      generalize (nmR l 12 12 0 [] 0).2.1 = ls at *
      have tx := tx_ok ls
      by_cases he : packB i ls t = l
      · rw [if_pos he]
        simp only
        unfold qrR
        have heT : decide (packB i ls t = l) = true := decide_eq_true he
        rw [heT] at heq
        (have hF := an hp0 <| an c_iin <| an hin <| an hn0' <| an hn1' <| an hrn <| an hpk <| an heq <| an tx.1 <| tx.2; have hc := trivial; repeat' (first | refine wK ?_ | refine wX ?_ | refine rR ?_ | refine rB ?_ ?_ <;> intro ht <;> try simp only [bbs] at ht | refine rG ?_ ?_ <;> intro hc | refine rZ ?_ | refine wQ ?_))
        all_goals try exact False.elim kk
        all_goals exact dirty (fz_deep (fz_qr _ _ _ _) _)
      · rw [if_neg he]
        simp only
        unfold qrR
        have heF : decide (packB i ls t = l) = false := decide_eq_false he
        rw [heF] at heq
        (have hF := an hp0 <| an c_iin <| an hin <| an hn0' <| an hn1' <| an hrn <| an hpk <| an heq <| an tx.1 <| tx.2; have hc := trivial; repeat' (first | refine wK ?_ | refine wX ?_ | refine rR ?_ | refine rB ?_ ?_ <;> intro ht <;> try simp only [bbs] at ht | refine rG ?_ ?_ <;> intro hc | refine rZ ?_ | refine wQ ?_))
        all_goals try exact False.elim kk
        all_goals exact dirty rfl
    · have hrr : ∃ c : Int, ¬ c = 0 ∧ rnR l = .agg [.v (.int .i64 c), textsL [], .v (.int .i64 0)] := by
        unfold rnR
        split
        · rename_i h
          have hz : ¬ (nmR l 12 12 0 [] 0).1 = 0 := fun e => hnm ⟨h, e⟩
          exact ⟨_, hz, by rw [if_neg hz]; rfl⟩
        · exact ⟨3, by omega, rfl⟩
      obtain ⟨c, hc0, hrr⟩ := hrr
      rw [hrr] at hrn
      have hask : askF l = none := by
        unfold askF
        by_cases hz : (nmR l 12 12 0 [] 0).1 = 0
        · have h13 : ¬ 12 < l.length := fun h => hnm ⟨h, hz⟩
          rw [if_neg]
          rintro ⟨-, hp⟩
          have := ask_end hz hp
          obtain ⟨hk, hx0, hx1⟩ := nm_ok l 12 12 0 [] 0 ⟨by simp, by simp⟩ (by simp) hz
          have h2 := (pack_read (i := num2 l 0) (t := num2 l (nmR l 12 12 0 [] 0).2.2) hk).2
          rw [hp] at h2
          omega
        · rw [if_neg (fun h => hz h.1)]
      rw [hask]
      simp only
      unfold qrR
      have tx := tx_ok []
      have hn0' : ∀ H, call Tryz.prog cfg0 0 34 [bytesL l, .v (.int .i64 0), .v (.int .i64 2)] H = some (.tup [.v (.int .i64 (num2 l 0)), .v (.bool (decide ((readWord l 0 2).1 = 0)))], H) := hn0
      (have hF := an hp0 <| an c_iin <| an hin <| an hn0' <| an hrn <| an hc0 <| an tx.1 <| tx.2; have hc := trivial; repeat' (first | refine wK ?_ | refine wX ?_ | refine rR ?_ | refine rB ?_ ?_ <;> intro ht <;> try simp only [bbs] at ht | refine rG ?_ ?_ <;> intro hc | refine rZ ?_ | refine wQ ?_))
      all_goals try exact False.elim kk
      all_goals exact dirty rfl
  obtain ⟨v, cl, rfl, hp⟩ := key
  exact ⟨cl, hp⟩
theorem c_iReadQuery (l : List Int) (hb : Eng.Bytes l) (hl : l.length ≤ 1048576) : ∀ H, call Tryz.prog cfg0 0 8 [bytesL l] H = some (rqR l, H) := fun H => by
  obtain ⟨cl, hp⟩ := p_iReadQuery l hb hl
  exact call_fz Tryz.func8 rfl ok_iReadQuery rfl (by simp only [fz_cons, fz_nil, go_sem, and_self]) hp H

end
end Go.Proofs.YtnejoidfbgklbaaGreatDoor
namespace Go.Proofs.YtnejoidfbgklbaaGreatDoor
open Go Go.RowKit Go.Proofs.YtnejoidfbgklbaaGreatDoor.Eng
set_option linter.unusedSimpArgs false
set_option linter.unusedVariables false
set_option maxRecDepth 100000
set_option maxHeartbeats 2000000
noncomputable section
open Classical in
theorem apB {y : AV} {l : List Int} (hy : isB y l) (hne : l ≠ []) (a : List Int) (hl : a.length + l.length ≤ 16777216) (H : Hp) (b n : Nat) : aappend Tryz.prog H [22, 22] (.sl b 1 0 n) y = if H.h b = some (a.map cell) ∧ n = a.length then some (.sl H.g 1 0 (a ++ l).length, (H.del b).new ((a ++ l).map cell)) else aappend' Tryz.prog H [22, 22] (.sl b 1 0 n) y := app_blkI el22 zero5 by5 int22 hy hne a hl H b n
theorem gO_eq {l l' : List Int} {x : AV} {H : Hp} (e : l = l') (h : GivesO (bytesL l) x H) : GivesO (bytesL l') x H := e ▸ h
theorem o_pack2 (n : Int) (hn : 0 ≤ n ∧ n ≤ 9223372036854775807) : ∀ H, call Tryz.prog cfg0 1 83 [.v (.int .i64 n), .v (.int .i64 2)] H = some (.sl H.g 1 0 (wordL n 2).length, H.new ((wordL n 2).map cell)) := fun H => by
  rw [o_sl1Pack n 2 2 rfl hn (by omega)]; exact mat_bytes 10 _ (wordL_ne n (by omega)) H
theorem ok_sl10Pair : fnOk Tryz.prog cfg0 68 Tryz.f68 = true := by kernel_rfl
theorem pq_sl10Pair (n : Int) (hn : 0 ≤ n ∧ n ≤ 9223372036854775807) : pure Tryz.prog cfg0 68 Tryz.f68 [.v (.int .i64 n)] = some (bytesL (wordL n 2), true) ∧ owned Tryz.prog cfg0 68 Tryz.f68 [.v (.int .i64 n)] = some (bytesL (wordL n 2)) := by
  refine both_wp (rs := [.tmp 2]) rfl rfl ?_
  have hp0 : ∀ b, cfg0.pol 68 b = (if b = 4 then 1 else 0) := fun b => rfl
  (have hF := an hp0 <| (o_pack2 n hn); have hc := trivial; repeat' (first | refine wK ?_ | refine wX ?_ | refine rR ?_ | refine rB ?_ ?_ <;> intro ht <;> try simp only [bbs] at ht | refine rG ?_ ?_ <;> intro hc | refine rZ ?_ | refine wQ ?_))
  all_goals try exact False.elim kk
  all_goals exact gO_bytes (new_same _ _)
theorem c_sl10Pair (n : Int) (hn : 0 ≤ n ∧ n ≤ 9223372036854775807) : ∀ H, call Tryz.prog cfg0 0 68 [.v (.int .i64 n)] H = some (bytesL (wordL n 2), H) :=
  call_fz Tryz.func68 rfl ok_sl10Pair rfl (by simp only [fz_cons, fz_nil, go_sem, and_self]) (pq_sl10Pair n hn).1
theorem o_sl10Pair (n : Int) (hn : 0 ≤ n ∧ n ≤ 9223372036854775807) : ∀ H, call Tryz.prog cfg0 1 68 [.v (.int .i64 n)] H = mat depthD (bytesL (wordL n 2)) H := fun H =>
  call_ofO Tryz.func68 rfl ok_sl10Pair rfl (mapM_self fun x hx => ((show ∀ x ∈ ([.v (.int .i64 n)] : List AV), Fz depthD x by simp only [fz_cons, fz_nil, go_sem, and_self]) x hx).1 H) (pq_sl10Pair n hn).2

theorem o_pair (n : Int) (hn : 0 ≤ n ∧ n ≤ 9223372036854775807) : ∀ H, call Tryz.prog cfg0 1 68 [.v (.int .i64 n)] H = some (.sl H.g 1 0 (wordL n 2).length, H.new ((wordL n 2).map cell)) := fun H => by
  rw [o_sl10Pair n hn]; exact mat_bytes 10 _ (wordL_ne n (by omega)) H
end
end Go.Proofs.YtnejoidfbgklbaaGreatDoor
namespace Go.Proofs.YtnejoidfbgklbaaGreatDoor
open Go Go.RowKit Go.Proofs.YtnejoidfbgklbaaGreatDoor.Eng
set_option linter.unusedSimpArgs false
set_option linter.unusedVariables false
set_option maxRecDepth 100000
set_option maxHeartbeats 2000000
noncomputable section
theorem lit10 : bs 10 [AV.v (.int .u8 0)] [(0, AV.v (.int .u8 1)), (1, AV.v (.int .u8 0)), (2, AV.v (.int .u8 0)), (3, AV.v (.int .u8 1)), (4, AV.v (.int .u8 0)), (5, AV.v (.int .u8 0)), (6, AV.v (.int .u8 0)), (7, AV.v (.int .u8 0)), (8, AV.v (.int .u8 0)), (9, AV.v (.int .u8 0))] = some ([AV.v (.int .u8 1), AV.v (.int .u8 0), AV.v (.int .u8 0), AV.v (.int .u8 1), AV.v (.int .u8 0), AV.v (.int .u8 0), AV.v (.int .u8 0), AV.v (.int .u8 0), AV.v (.int .u8 0), AV.v (.int .u8 0)], 1) := by kernel_rfl
theorem chk10 : chunk 1 10 [AV.v (.int .u8 1), AV.v (.int .u8 0), AV.v (.int .u8 0), AV.v (.int .u8 1), AV.v (.int .u8 0), AV.v (.int .u8 0), AV.v (.int .u8 0), AV.v (.int .u8 0), AV.v (.int .u8 0), AV.v (.int .u8 0)] = [[AV.v (.int .u8 1)], [AV.v (.int .u8 0)], [AV.v (.int .u8 0)], [AV.v (.int .u8 1)], [AV.v (.int .u8 0)], [AV.v (.int .u8 0)], [AV.v (.int .u8 0)], [AV.v (.int .u8 0)], [AV.v (.int .u8 0)], [AV.v (.int .u8 0)]] := by kernel_rfl
theorem ok_sl10Query : fnOk Tryz.prog cfg0 31 Tryz.f31 = true := by kernel_rfl
theorem pq_sl10Query (i t : Int) (ls : List ByteArray) (hi : 0 ≤ i ∧ i ≤ 65535) (htt : 0 ≤ t ∧ t ≤ 65535) (hk : labsOk ls) : pure Tryz.prog cfg0 31 Tryz.f31 [.fp [.v (.int .i64 i), textsL ls, .v (.int .i64 t)] 0] = some (bytesL (packB i ls t), true) ∧ owned Tryz.prog cfg0 31 Tryz.f31 [.fp [.v (.int .i64 i), textsL ls, .v (.int .i64 t)] 0] = some (bytesL (packB i ls t)) := by
  refine both_wp (rs := [.tmp 2]) rfl rfl ?_
  have hp0 : ∀ b, cfg0.pol 31 b = (if b = 8 then 1 else if b = 15 then 3 else if b = 21 then 3 else if b = 1000000 then 2 else 0) := fun b => rfl
  have hel := encN_len hk
  have hne : encN ls ≠ [] := by unfold encN; simp
  have hpi := o_pair i (by omega)
  have hpt := c_sl10Pair t (by omega)
  have hnm := c_sl10Name ls hk
  have hw1 := wordL_len i 2
  have hw2 := wordL_len t 2
  have q1 := fun H b n => apB (y := .lst true [[.v (.int .u8 1)], [.v (.int .u8 0)], [.v (.int .u8 0)], [.v (.int .u8 1)], [.v (.int .u8 0)], [.v (.int .u8 0)], [.v (.int .u8 0)], [.v (.int .u8 0)], [.v (.int .u8 0)], [.v (.int .u8 0)]]) (l := [1, 0, 0, 1, 0, 0, 0, 0, 0, 0]) ⟨true, rfl⟩ (by simp) (wordL i 2) (by simp; omega) H b n
  have q2 := fun H b n => apB (isB_l (encN ls)) hne (wordL i 2 ++ [1, 0, 0, 1, 0, 0, 0, 0, 0, 0]) (by simp; omega) H b n
  have q3 := fun H b n => apB (isB_l (wordL t 2)) (wordL_ne t (by omega)) (wordL i 2 ++ [1, 0, 0, 1, 0, 0, 0, 0, 0, 0] ++ encN ls) (by simp; omega) H b n
  have q4 := fun H b n => apB (isB_2 true 0 1) (by simp) (wordL i 2 ++ [1, 0, 0, 1, 0, 0, 0, 0, 0, 0] ++ encN ls ++ wordL t 2) (by simp; omega) H b n
  repeat' (first | ((first | refine wSeqr ?_ | refine wSeqrF ?_ | refine wIf ?_ | refine wReg ?_ | refine wRegF ?_ | (refine wRet ?_; (try simp only [thenQ, blockQ]); refine ends_by ?_)); intro xx hx; have hc := trivial; (repeat' (simp only [hc, Nat.reduceBEq, go_sem, Nat.reduceAdd, Nat.reduceMul, Nat.reduceSub, Nat.reduceEqDiff, Nat.reduceLT, Nat.reduceLeDiff, Int.reduceEq, Int.reduceLT, Int.reduceLE, reduceIte, aresults, aresult, hp0, hpi, hpt, hnm, lit10, chk10, q1, q2, q3, q4] at hx; (try ((first | rw [guardL_if] at hx | rw [guardF_if] at hx); split at hx <;> rename_i hc)))); all_goals (subst hx; first | (refine ⟨_, rfl, fun ht => ?_, fun ht => ?_⟩ <;> (try simp only [bbs] at ht)) | (refine ⟨_, rfl, ?_⟩; (try simp only [tupOf])))) | refine wSkip ?_ | (refine wExit ?_; simp only [thenQ, blockQ, reduceIte, Nat.reduceEqDiff]) | refine wSeq ?_ | refine wBlock ?_)
  all_goals try exact False.elim kk
  all_goals exact gO_bytes (new_same _ _)
theorem p_sl10Query (i t : Int) (ls : List ByteArray) (hi : 0 ≤ i ∧ i ≤ 65535) (htt : 0 ≤ t ∧ t ≤ 65535) (hk : labsOk ls) : pure Tryz.prog cfg0 31 Tryz.f31 [.fp [.v (.int .i64 i), textsL ls, .v (.int .i64 t)] 0] = some (bytesL (packB i ls t), true) := (pq_sl10Query i t ls hi htt hk).1
theorem deep_q {H : Hp} {q : Nat} {i t : Int} {ls : List ByteArray} (h : H.h q = some [.v (.int .i64 i), textsL ls, .v (.int .i64 t)]) : deep H depthD (.ptr q 0) = some (.fp [.v (.int .i64 i), textsL ls, .v (.int .i64 t)] 0) := by
  show ((H.h q).bind fun cs => (cs.mapM (deep H 11)).map fun ds => AV.fp ds 0) = _
  rw [h]
  have e : deep H 11 (textsL ls) = some (textsL ls) := (fz_rows (n := 10) (fun s x hx => by simp only [List.mem_singleton] at hx; subst hx; exact Fz.string _ _) ls : Fz 11 (textsL ls)).1 H
  simp only [Option.bind_some]
  rw [mapM_c (show deep H 11 (.v (.int .i64 i)) = some (.v (.int .i64 i)) from rfl) (mapM_c e (mapM_c (show deep H 11 (.v (.int .i64 t)) = some (.v (.int .i64 t)) from rfl) mapM_n))]
  rfl
open Classical in
theorem cp_Query (i t : Int) (ls : List ByteArray) (hi : 0 ≤ i ∧ i ≤ 65535) (htt : 0 ≤ t ∧ t ≤ 65535) (hk : labsOk ls) : ∀ H q, call Tryz.prog cfg0 0 31 [.ptr q 0] H = if H.h q = some [.v (.int .i64 i), textsL ls, .v (.int .i64 t)] then some (bytesL (packB i ls t), H) else call' Tryz.prog cfg0 0 31 [.ptr q 0] H := fun H q =>
  call_if Tryz.func31 rfl ok_sl10Query rfl (fun hC => mapM_c (deep_q hC) mapM_n) (p_sl10Query i t ls hi htt hk)
end
end Go.Proofs.YtnejoidfbgklbaaGreatDoor
namespace Go.Proofs.YtnejoidfbgklbaaGreatDoor
open Go Go.RowKit Go.Proofs.YtnejoidfbgklbaaGreatDoor.Eng
set_option linter.unusedSimpArgs false
set_option linter.unusedVariables false
set_option maxRecDepth 100000
set_option maxHeartbeats 2000000
noncomputable section
theorem num2_rd {l : List Int} (hb : Eng.Bytes l) {p : Nat} (h : p + 2 ≤ l.length) : rdN ((l.drop p).take 2) = num2 l (p : Int) ∧ rdN ((l.drop p).take 2) ≤ 65535 := by
  have hw := bytes_sub hb p 2
  have hlen : ((l.drop p).take 2).length = 2 := by simp; omega
  have := rd_bound hw 2 (by omega)
  rw [List.take_of_length_le (by omega)] at this
  have h2 : rdN ((l.drop p).take 2) ≤ 65535 := by have := this.2; omega
  refine ⟨?_, h2⟩
  unfold num2 readWord
  rw [Int.toNat_natCast, if_pos h, if_pos (by omega)]
/-- What the reference asks. -/
def saR (l : List Int) : AV := if (nmR l 12 12 0 [] 0).1 = 0 ∧ (nmR l 12 12 0 [] 0).2.2 + 4 = l.length then .tup [.agg [.v (.int .i64 (num2 l 0)), textsL (nmR l 12 12 0 [] 0).2.1, .v (.int .i64 (num2 l (nmR l 12 12 0 [] 0).2.2))], .v (.bool (decide (packB (num2 l 0) (nmR l 12 12 0 [] 0).2.1 (num2 l (nmR l 12 12 0 [] 0).2.2) = l)))]
  else .tup [.agg [.v (.int .i64 0), textsL [], .v (.int .i64 0)], .v (.bool false)]
theorem mat_sr (ls : List ByteArray) (c nx : Int) (hne : ls ≠ []) (H : Hp) : mat depthD (.tup [.agg [textsL ls, .v (.int .i64 nx)], .v (.int .i64 c)]) H = some (.tup [.agg [.sl H.g 1 0 ls.length, .v (.int .i64 nx)], .v (.int .i64 c)], H.new (ls.map txcell)) := by
  have e : mat 10 (textsL ls) H = some (.sl H.g 1 0 ls.length, H.new (ls.map txcell)) := mat_flat (fun s => .string s) 8 ls hne H
  show (matL (mat 11) [AV.agg [textsL ls, .v (.int .i64 nx)], .v (.int .i64 c)] H).map _ = _
  have e1 : mat 11 (.agg [textsL ls, .v (.int .i64 nx)]) H = some (.agg [.sl H.g 1 0 ls.length, .v (.int .i64 nx)], H.new (ls.map txcell)) := by
    show (matL (mat 10) [textsL ls, .v (.int .i64 nx)] H).map _ = _
    simp only [matL, e, Option.bind_some]
    rfl
  simp only [matL, e1, Option.bind_some]
  rfl
theorem mat_sr0 (c nx : Int) (H : Hp) : mat depthD (.tup [.agg [textsL [], .v (.int .i64 nx)], .v (.int .i64 c)]) H = some (.tup [.agg [.lst false [], .v (.int .i64 nx)], .v (.int .i64 c)], H) := rfl
theorem gO_q {H : Hp} {x : AV} {n : Nat} {ls : List ByteArray} (h : RAcc H x 1 (ls.map txcell) n) (i t : Int) (b : Bool) : GivesO (.tup [.agg [.v (.int .i64 i), textsL ls, .v (.int .i64 t)], .v (.bool b)]) (.tup [.agg [.v (.int .i64 i), x, .v (.int .i64 t)], .v (.bool b)]) H := by
  obtain ⟨h1, h2, fp, h3, h4⟩ := gF_labs h 8
  have h1 : deep H 10 x = some (textsL ls) := h1
  have h2 : clean H 10 x = true := h2
  have h3 : fpt H 10 x = some fp := h3
  have d0 : ∀ (d : Nat) (z : Int), deep H (d + 1) (.v (.int .i64 z)) = some (.v (.int .i64 z)) := fun _ _ => rfl
  have d1 : ∀ (d : Nat) (z : Bool), deep H (d + 1) (.v (.bool z)) = some (.v (.bool z)) := fun _ _ => rfl
  have f0 : ∀ (d : Nat) (z : Int), fpt H (d + 1) (.v (.int .i64 z)) = some [] := fun _ _ => rfl
  have f1 : ∀ (d : Nat) (z : Bool), fpt H (d + 1) (.v (.bool z)) = some [] := fun _ _ => rfl
  refine ⟨⟨?_, ?_⟩, fp, ?_, h4⟩
  · show (List.mapM (deep H 11) [AV.agg [.v (.int .i64 i), x, .v (.int .i64 t)], .v (.bool b)]).map AV.tup = _
    have e : deep H 11 (.agg [.v (.int .i64 i), x, .v (.int .i64 t)]) = some (.agg [.v (.int .i64 i), textsL ls, .v (.int .i64 t)]) := by
      show (List.mapM (deep H 10) [AV.v (.int .i64 i), x, .v (.int .i64 t)]).map AV.agg = _
      simp only [List.mapM_cons, List.mapM_nil, h1, d0, Option.pure_def, Option.bind_eq_bind, Option.bind_some, Option.map_some]
    simp only [List.mapM_cons, List.mapM_nil, e, d1, Option.pure_def, Option.bind_eq_bind, Option.bind_some, Option.map_some]
  · show ((true && (clean H 10 x && (true && true))) && (true && true)) = true
    rw [h2]; rfl
  · show (List.mapM (fpt H 11) [AV.agg [.v (.int .i64 i), x, .v (.int .i64 t)], .v (.bool b)]).map List.flatten = some fp
    have e : fpt H 11 (.agg [.v (.int .i64 i), x, .v (.int .i64 t)]) = some fp := by
      show (List.mapM (fpt H 10) [AV.v (.int .i64 i), x, .v (.int .i64 t)]).map List.flatten = some fp
      simp only [List.mapM_cons, List.mapM_nil, h3, f0, Option.pure_def, Option.bind_eq_bind, Option.bind_some, Option.map_some]
      simp
    simp only [List.mapM_cons, List.mapM_nil, e, f1, Option.pure_def, Option.bind_eq_bind, Option.bind_some, Option.map_some]
    simp
open Classical in
theorem cp_Query2 (i t : Int) (ls : List ByteArray) (hi : 0 ≤ i ∧ i ≤ 65535) (htt : 0 ≤ t ∧ t ≤ 65535) (hk : labsOk ls) (b : Nat) : ∀ H q, call Tryz.prog cfg0 0 31 [.ptr q 0] H = if H.h q = some [.v (.int .i64 i), .sl b 1 0 ls.length, .v (.int .i64 t)] ∧ H.h b = some (ls.map txcell) ∧ b < H.g then some (bytesL (packB i ls t), H) else call' Tryz.prog cfg0 0 31 [.ptr q 0] H := fun H q =>
  call_if Tryz.func31 rfl ok_sl10Query rfl (fun hC => mapM_c (show deep H depthD (.ptr q 0) = some (.fp [.v (.int .i64 i), textsL ls, .v (.int .i64 t)] 0) by
    obtain ⟨h1, h2, h3⟩ := hC
    show ((H.h q).bind fun cs => (cs.mapM (deep H 11)).map fun ds => AV.fp ds 0) = _
    rw [h1]
    simp only [Option.bind_some]
    rw [mapM_c (show deep H 11 (.v (.int .i64 i)) = some (.v (.int .i64 i)) from rfl) (mapM_c (deep_txts h2 rfl h3 9) (mapM_c (show deep H 11 (.v (.int .i64 t)) = some (.v (.int .i64 t)) from rfl) mapM_n))]
    rfl) mapM_n) (p_sl10Query i t ls hi htt hk)
open Classical in
theorem cp_Query0 (i t : Int) (hi : 0 ≤ i ∧ i ≤ 65535) (htt : 0 ≤ t ∧ t ≤ 65535) : ∀ H q, call Tryz.prog cfg0 0 31 [.ptr q 0] H = if H.h q = some [.v (.int .i64 i), .lst false [], .v (.int .i64 t)] then some (bytesL (packB i [] t), H) else call' Tryz.prog cfg0 0 31 [.ptr q 0] H := cp_Query i t [] hi htt ⟨by simp, by simp⟩
theorem ok_sl10Ask : fnOk Tryz.prog cfg0 45 Tryz.f45 = true := by kernel_rfl
theorem pq_sl10Ask (l : List Int) (hb : Eng.Bytes l) (hl : l.length ≤ 1048576) (h12 : 12 ≤ l.length) : pure Tryz.prog cfg0 45 Tryz.f45 [bytesL l] = some (saR l, true) ∧ owned Tryz.prog cfg0 45 Tryz.f45 [bytesL l] = some (saR l) := by
  refine both_wp (rs := [.cell 2 26, .tmp 3]) rfl rfl ?_
  have hp0 : ∀ b, cfg0.pol 45 b = (if b = 9 then 1 else if b = 34 then 3 else if b = 36 then 3 else if b = 1000000 then 2 else 0) := fun b => rfl
  have hrd := o_sl10Read l hb hl h12
  unfold srR at hrd
  obtain ⟨e1, e2, e3⟩ := nm_indep l 12 12 0 [] (-1) 0
  have e3 := e3 rfl
  rw [e1, e2] at hrd
  rw [e1] at e3
  by_cases hz : (nmR l 12 12 0 [] 0).1 = 0
  rotate_left
  · rw [show saR l = .tup [.agg [.v (.int .i64 0), textsL [], .v (.int .i64 0)], .v (.bool false)] from if_neg (fun h => hz h.1)]
    have tx := tx_ok (nmR l 12 12 0 [] 0).2.1
    generalize (nmR l 12 12 0 [] (-1)).2.2 = nx at *
    generalize (nmR l 12 12 0 [] 0).2.1 = ls at *
    by_cases hls : ls = []
    · subst hls
      have hrd2 := fun H => (hrd H).trans (mat_sr0 _ _ H)
      repeat' (first | ((first | refine wSeqr ?_ | refine wSeqrF ?_ | refine wIf ?_ | refine wReg ?_ | refine wRegF ?_ | (refine wRet ?_; (try simp only [thenQ, blockQ]); refine ends_by ?_)); intro xx hx; have hc := trivial; (repeat' (simp only [hc, Nat.reduceBEq, go_sem, Nat.reduceAdd, Nat.reduceMul, Nat.reduceSub, Nat.reduceEqDiff, Nat.reduceLT, Nat.reduceLeDiff, Int.reduceEq, Int.reduceLT, Int.reduceLE, reduceIte, aresults, aresult, hp0, hrd2, hz] at hx; (try ((first | rw [guardL_if] at hx | rw [guardF_if] at hx); split at hx <;> rename_i hc)))); all_goals (subst hx; first | (refine ⟨_, rfl, fun ht => ?_, fun ht => ?_⟩ <;> (try simp only [bbs] at ht)) | (refine ⟨_, rfl, ?_⟩; (try simp only [tupOf])))) | refine wSkip ?_ | (refine wExit ?_; simp only [thenQ, blockQ, reduceIte, Nat.reduceEqDiff]) | refine wSeq ?_ | refine wBlock ?_)
      all_goals try exact False.elim kk
      all_goals exact gO_q (ls := []) RAcc.nil 0 0 false
    · have hrd2 := fun H => (hrd H).trans (mat_sr ls _ _ hls H)
      repeat' (first | ((first | refine wSeqr ?_ | refine wSeqrF ?_ | refine wIf ?_ | refine wReg ?_ | refine wRegF ?_ | (refine wRet ?_; (try simp only [thenQ, blockQ]); refine ends_by ?_)); intro xx hx; have hc := trivial; (repeat' (simp only [hc, Nat.reduceBEq, go_sem, Nat.reduceAdd, Nat.reduceMul, Nat.reduceSub, Nat.reduceEqDiff, Nat.reduceLT, Nat.reduceLeDiff, Int.reduceEq, Int.reduceLT, Int.reduceLE, reduceIte, aresults, aresult, hp0, hrd2, hz] at hx; (try ((first | rw [guardL_if] at hx | rw [guardF_if] at hx); split at hx <;> rename_i hc)))); all_goals (subst hx; first | (refine ⟨_, rfl, fun ht => ?_, fun ht => ?_⟩ <;> (try simp only [bbs] at ht)) | (refine ⟨_, rfl, ?_⟩; (try simp only [tupOf])))) | refine wSkip ?_ | (refine wExit ?_; simp only [thenQ, blockQ, reduceIte, Nat.reduceEqDiff]) | refine wSeq ?_ | refine wBlock ?_)
      all_goals try exact False.elim kk
      all_goals exact gO_q (ls := []) RAcc.nil 0 0 false
  rw [e3 hz, hz] at hrd
  obtain ⟨hk, hx0, hx1⟩ := nm_ok l 12 12 0 [] 0 ⟨by simp, by simp⟩ (by simp) hz
  by_cases hend : (nmR l 12 12 0 [] 0).2.2 + 4 = l.length
  rotate_left
  · rw [show saR l = .tup [.agg [.v (.int .i64 0), textsL [], .v (.int .i64 0)], .v (.bool false)] from if_neg (fun h => hend h.2)]
    have tx := tx_ok (nmR l 12 12 0 [] 0).2.1
    have w4 : IntKind.wrap .i64 ((nmR l 12 12 0 [] 0).2.2 + 4) = (nmR l 12 12 0 [] 0).2.2 + 4 := wrap_i64 (by omega) (by omega)
    generalize (nmR l 12 12 0 [] 0).2.2 = nx at *
    generalize (nmR l 12 12 0 [] 0).2.1 = ls at *
    by_cases hls : ls = []
    · subst hls
      have hrd2 := fun H => (hrd H).trans (mat_sr0 _ _ H)
      repeat' (first | ((first | refine wSeqr ?_ | refine wSeqrF ?_ | refine wIf ?_ | refine wReg ?_ | refine wRegF ?_ | (refine wRet ?_; (try simp only [thenQ, blockQ]); refine ends_by ?_)); intro xx hx; have hc := trivial; (repeat' (simp only [hc, Nat.reduceBEq, go_sem, Nat.reduceAdd, Nat.reduceMul, Nat.reduceSub, Nat.reduceEqDiff, Nat.reduceLT, Nat.reduceLeDiff, Int.reduceEq, Int.reduceLT, Int.reduceLE, reduceIte, aresults, aresult, hp0, hrd2, w4, hend] at hx; (try ((first | rw [guardL_if] at hx | rw [guardF_if] at hx); split at hx <;> rename_i hc)))); all_goals (subst hx; first | (refine ⟨_, rfl, fun ht => ?_, fun ht => ?_⟩ <;> (try simp only [bbs] at ht)) | (refine ⟨_, rfl, ?_⟩; (try simp only [tupOf])))) | refine wSkip ?_ | (refine wExit ?_; simp only [thenQ, blockQ, reduceIte, Nat.reduceEqDiff]) | refine wSeq ?_ | refine wBlock ?_)
      all_goals try exact False.elim kk
      all_goals exact gO_q (ls := []) RAcc.nil 0 0 false
    · have hrd2 := fun H => (hrd H).trans (mat_sr ls _ _ hls H)
      repeat' (first | ((first | refine wSeqr ?_ | refine wSeqrF ?_ | refine wIf ?_ | refine wReg ?_ | refine wRegF ?_ | (refine wRet ?_; (try simp only [thenQ, blockQ]); refine ends_by ?_)); intro xx hx; have hc := trivial; (repeat' (simp only [hc, Nat.reduceBEq, go_sem, Nat.reduceAdd, Nat.reduceMul, Nat.reduceSub, Nat.reduceEqDiff, Nat.reduceLT, Nat.reduceLeDiff, Int.reduceEq, Int.reduceLT, Int.reduceLE, reduceIte, aresults, aresult, hp0, hrd2, w4, hend] at hx; (try ((first | rw [guardL_if] at hx | rw [guardF_if] at hx); split at hx <;> rename_i hc)))); all_goals (subst hx; first | (refine ⟨_, rfl, fun ht => ?_, fun ht => ?_⟩ <;> (try simp only [bbs] at ht)) | (refine ⟨_, rfl, ?_⟩; (try simp only [tupOf])))) | refine wSkip ?_ | (refine wExit ?_; simp only [thenQ, blockQ, reduceIte, Nat.reduceEqDiff]) | refine wSeq ?_ | refine wBlock ?_)
      all_goals try exact False.elim kk
      all_goals exact gO_q (ls := []) RAcc.nil 0 0 false
  rw [show saR l = _ from if_pos ⟨hz, hend⟩]
  have w4 : IntKind.wrap .i64 ((nmR l 12 12 0 [] 0).2.2 + 4) = (l.length : Int) := by rw [wrap_i64 (by omega) (by omega)]; exact hend
  obtain ⟨p, hp⟩ : ∃ p : Nat, (nmR l 12 12 0 [] 0).2.2 = (p : Int) := ⟨(nmR l 12 12 0 [] 0).2.2.toNat, by omega⟩
  have b0 := num2_b hb 0
  have b1 := num2_b hb (nmR l 12 12 0 [] 0).2.2
  rw [hp] at hrd w4 b1 hend ⊢
  have r0 := num2_rd hb (p := 0) (by omega)
  have r1 := num2_rd hb (p := p) (by omega)
  have hr0 := c_sl1Read l 0 2 0 2 rfl rfl hb (by omega) hl (by omega)
  have hr1 := c_sl1Read l p 2 p 2 rfl rfl hb (by omega) hl (by omega)
  rw [r0.1] at hr0
  rw [r1.1] at hr1
  have hpb : Eng.Bytes (packB (num2 l 0) (nmR l 12 12 0 [] 0).2.1 (num2 l (p : Int))) := by
    unfold packB
    refine bytes_app (bytes_app (bytes_app (bytes_app (wordL_bytes _ _) ?_) (encN_bytes _)) (wordL_bytes _ _)) ?_ <;> (intro z hz; simp only [List.mem_cons, List.not_mem_nil, or_false] at hz; omega)
  have hse := strOf_eq hpb hb
  have hr0' : ∀ H, call Tryz.prog cfg0 0 53 [bytesL l, .v (.int .i64 0), .v (.int .i64 2)] H = some (.v (.int .i64 (num2 l 0)), H) := hr0
  have tx := tx_ok (nmR l 12 12 0 [] 0).2.1
  have cvb := conv_bytesL u22 u9 u5
  generalize (nmR l 12 12 0 [] 0).2.1 = ls at *
  generalize num2 l 0 = i at *
  generalize num2 l (p : Int) = t at *
  by_cases hls : ls = []
  · subst hls
    have hrd2 := fun H => (hrd H).trans (mat_sr0 _ _ H)
    have hqq := cp_Query0 i t b0 b1
    repeat' (first | ((first | refine wSeqr ?_ | refine wSeqrF ?_ | refine wIf ?_ | refine wReg ?_ | refine wRegF ?_ | (refine wRet ?_; (try simp only [thenQ, blockQ]); refine ends_by ?_)); intro xx hx; have hc := trivial; (repeat' (simp only [hc, Nat.reduceBEq, go_sem, Nat.reduceAdd, Nat.reduceMul, Nat.reduceSub, Nat.reduceEqDiff, Nat.reduceLT, Nat.reduceLeDiff, Int.reduceEq, Int.reduceLT, Int.reduceLE, reduceIte, aresults, aresult, hp0, hrd2, w4, hr0', hr1, hqq, cvb, hse] at hx; (try ((first | rw [guardL_if] at hx | rw [guardF_if] at hx); split at hx <;> rename_i hc)))); all_goals (subst hx; first | (refine ⟨_, rfl, fun ht => ?_, fun ht => ?_⟩ <;> (try simp only [bbs] at ht)) | (refine ⟨_, rfl, ?_⟩; (try simp only [tupOf])))) | refine wSkip ?_ | (refine wExit ?_; simp only [thenQ, blockQ, reduceIte, Nat.reduceEqDiff]) | refine wSeq ?_ | refine wBlock ?_)
    all_goals try exact False.elim kk
    all_goals exact ⟨⟨rfl, rfl⟩, [], rfl, List.nodup_nil⟩
  · have hrd2 := fun H => (hrd H).trans (mat_sr ls _ _ hls H)
    have hqq := cp_Query2 i t ls b0 b1 hk 1
    repeat' (first | ((first | refine wSeqr ?_ | refine wSeqrF ?_ | refine wIf ?_ | refine wReg ?_ | refine wRegF ?_ | (refine wRet ?_; (try simp only [thenQ, blockQ]); refine ends_by ?_)); intro xx hx; have hc := trivial; (repeat' (simp only [hc, Nat.reduceBEq, go_sem, Nat.reduceAdd, Nat.reduceMul, Nat.reduceSub, Nat.reduceEqDiff, Nat.reduceLT, Nat.reduceLeDiff, Int.reduceEq, Int.reduceLT, Int.reduceLE, reduceIte, aresults, aresult, hp0, hrd2, w4, hr0', hr1, hqq, cvb, hse, Nat.zero_add, Nat.reduceLT, Nat.lt_add_one] at hx; (try ((first | rw [guardL_if] at hx | rw [guardF_if] at hx); split at hx <;> rename_i hc)))); all_goals (subst hx; first | (refine ⟨_, rfl, fun ht => ?_, fun ht => ?_⟩ <;> (try simp only [bbs] at ht)) | (refine ⟨_, rfl, ?_⟩; (try simp only [tupOf])))) | refine wSkip ?_ | (refine wExit ?_; simp only [thenQ, blockQ, reduceIte, Nat.reduceEqDiff]) | refine wSeq ?_ | refine wBlock ?_)
    all_goals try exact False.elim kk
    all_goals exact gO_q ⟨by simp, .inr ⟨1, Nat.succ_lt_succ (Nat.succ_pos _), rfl, rfl⟩⟩ _ _ _
theorem c_sl10Ask (l : List Int) (hb : Eng.Bytes l) (hl : l.length ≤ 1048576) (h12 : 12 ≤ l.length) : ∀ H, call Tryz.prog cfg0 0 45 [bytesL l] H = some (saR l, H) :=
  call_fz Tryz.func45 rfl ok_sl10Ask rfl (by simp only [fz_cons, fz_nil, go_sem, and_self]) (pq_sl10Ask l hb hl h12).1
theorem ok_sReadQuery : fnOk Tryz.prog cfg0 13 Tryz.f13 = true := by kernel_rfl
theorem p_sReadQuery (l : List Int) (hb : Eng.Bytes l) (hl : l.length ≤ 1048576) : ∃ cl, pure Tryz.prog cfg0 13 Tryz.f13 [bytesL l] = some (rqR l, cl) := by
  have key : ∃ v cl, v = (rqR l : AV) ∧ pure Tryz.prog cfg0 13 Tryz.f13 [bytesL l] = some (v, cl) := by
    refine pure_ex (rs := [.cell 2 33]) rfl rfl ?_
    have hp0 : ∀ b, cfg0.pol 13 b = 0 := fun b => rfl
    by_cases h12 : 12 ≤ l.length ∧ l.length ≤ 300
    rotate_left
    · rw [show rqR l = qrR 2 0 [] 0 from if_neg h12]
      unfold qrR
      by_cases h1 : ((l.length : Nat) : Int) < 12
      · (have hF := an hp0 <| h1; have hc := trivial; repeat' (first | refine wK ?_ | refine wX ?_ | refine rR ?_ | refine rB ?_ ?_ <;> intro ht <;> try simp only [bbs] at ht | refine rG ?_ ?_ <;> intro hc | refine rZ ?_ | refine wQ ?_))
        all_goals try exact False.elim kk
        all_goals exact dirty rfl
      · have h2 : 300 < ((l.length : Nat) : Int) := by omega
        (have hF := an hp0 <| an h1 <| h2; have hc := trivial; repeat' (first | refine wK ?_ | refine wX ?_ | refine rR ?_ | refine rB ?_ ?_ <;> intro ht <;> try simp only [bbs] at ht | refine rG ?_ ?_ <;> intro hc | refine rZ ?_ | refine wQ ?_))
        all_goals try exact False.elim kk
        all_goals exact dirty rfl
    have i1 : ¬ ((l.length : Nat) : Int) < 12 := by omega
    have i2 : ¬ 300 < ((l.length : Nat) : Int) := by omega
    rw [show rqR l = (match askF l with
      | some (i, ls, t) => qrR 0 i ls t
      | none => qrR 1 0 [] 0) from if_pos h12]
    have ha := c_sl10Ask l hb hl h12.1
    by_cases hc1 : (nmR l 12 12 0 [] 0).1 = 0 ∧ (nmR l 12 12 0 [] 0).2.2 + 4 = l.length
    · rw [show saR l = _ from if_pos hc1] at ha
      have tx := tx_ok (nmR l 12 12 0 [] 0).2.1
      by_cases he : packB (num2 l 0) (nmR l 12 12 0 [] 0).2.1 (num2 l (nmR l 12 12 0 [] 0).2.2) = l
      · rw [show askF l = _ from if_pos ⟨hc1.1, he⟩, decide_eq_true he] at *
        simp only
        unfold qrR
        generalize (nmR l 12 12 0 [] 0).2.1 = ls at *
        generalize num2 l 0 = i at *
        generalize num2 l (nmR l 12 12 0 [] 0).2.2 = t at *
        (have hF := an hp0 <| an i1 <| an i2 <| an ha <| an tx.1 <| tx.2; have hc := trivial; repeat' (first | refine wK ?_ | refine wX ?_ | refine rR ?_ | refine rB ?_ ?_ <;> intro ht <;> try simp only [bbs] at ht | refine rG ?_ ?_ <;> intro hc | refine rZ ?_ | refine wQ ?_))
        all_goals try exact False.elim kk
        all_goals exact dirty (fz_deep (fz_qr _ _ _ _) _)
      · rw [show askF l = none from if_neg (fun h => he h.2), decide_eq_false he] at *
        simp only
        unfold qrR
        generalize (nmR l 12 12 0 [] 0).2.1 = ls at *
        generalize num2 l 0 = i at *
        generalize num2 l (nmR l 12 12 0 [] 0).2.2 = t at *
        (have hF := an hp0 <| an i1 <| an i2 <| an ha <| an tx.1 <| tx.2; have hc := trivial; repeat' (first | refine wK ?_ | refine wX ?_ | refine rR ?_ | refine rB ?_ ?_ <;> intro ht <;> try simp only [bbs] at ht | refine rG ?_ ?_ <;> intro hc | refine rZ ?_ | refine wQ ?_))
        all_goals try exact False.elim kk
        all_goals exact dirty rfl
    · rw [show saR l = _ from if_neg hc1] at ha
      have tx := tx_ok []
      have hno : askF l = none := by
        unfold askF
        rw [if_neg]
        rintro ⟨hz, hp⟩
        exact hc1 ⟨hz, ask_end hz hp⟩
      rw [hno]
      simp only
      unfold qrR
      (have hF := an hp0 <| an i1 <| an i2 <| an ha <| an tx.1 <| tx.2; have hc := trivial; repeat' (first | refine wK ?_ | refine wX ?_ | refine rR ?_ | refine rB ?_ ?_ <;> intro ht <;> try simp only [bbs] at ht | refine rG ?_ ?_ <;> intro hc | refine rZ ?_ | refine wQ ?_))
      all_goals try exact False.elim kk
      all_goals exact dirty rfl
  obtain ⟨v, cl, rfl, hp⟩ := key
  exact ⟨cl, hp⟩
theorem c_sReadQuery (l : List Int) (hb : Eng.Bytes l) (hl : l.length ≤ 1048576) : ∀ H, call Tryz.prog cfg0 0 13 [bytesL l] H = some (rqR l, H) := fun H => by
  obtain ⟨cl, hp⟩ := p_sReadQuery l hb hl
  exact call_fz Tryz.func13 rfl ok_sReadQuery rfl (by simp only [fz_cons, fz_nil, go_sem, and_self]) hp H

end
end Go.Proofs.YtnejoidfbgklbaaGreatDoor
