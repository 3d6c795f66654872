/- Contracts: a name is read, the program's side. Contracts: a name is read, the reference's side. -/
import Derived.Test.YtnejoidfbgklbaaGreatDoorNA
namespace Go.Proofs.YtnejoidfbgklbaaGreatDoor
open Go Go.RowKit Go.Proofs.YtnejoidfbgklbaaGreatDoor.Eng
set_option linter.unusedSimpArgs false
set_option linter.unusedVariables false
set_option maxRecDepth 100000
set_option maxHeartbeats 4000000
noncomputable section
theorem deep_labs {H : Hp} {x : AV} {n : Nat} {ls : List ByteArray} (h : RAcc H x 1 (ls.map txcell) n) (d : Nat) : deep H (d + 2) x = some (textsL ls) := by
  have hn : n = ls.length := by have := h.1; simpa using this.symm
  subst hn
  rcases h.2 with ⟨h0, e⟩ | ⟨b, hb, rfl, hh⟩
  · have e0 : ls = [] := List.length_eq_zero_iff.1 h0
    subst e0
    rcases e with rfl | rfl <;> rfl
  · exact deep_txts hh rfl hb d
theorem d_nm {H : Hp} {x : AV} {n : Nat} {ls : List ByteArray} (h : RAcc H x 1 (ls.map txcell) n) (c nx : Int) : deep H depthD (.agg [.v (.int .i64 c), x, .v (.int .i64 nx)]) = some (.agg [.v (.int .i64 c), textsL ls, .v (.int .i64 nx)]) := by
  show ([AV.v (.int .i64 c), x, .v (.int .i64 nx)].mapM (deep H 11)).map AV.agg = _
  rw [mapM_c (show deep H 11 (.v (.int .i64 c)) = some (.v (.int .i64 c)) from rfl) (mapM_c (deep_labs h 9) (mapM_c (show deep H 11 (.v (.int .i64 nx)) = some (.v (.int .i64 nx)) from rfl) mapM_n))]
  rfl
/-- What the program reads. -/
def rnR (l : List Int) : AV := if 12 < l.length then (if (nmR l 12 12 0 [] 0).1 = 0 then .agg [.v (.int .i64 0), textsL (nmR l 12 12 0 [] 0).2.1, .v (.int .i64 (nmR l 12 12 0 [] 0).2.2)] else .agg [.v (.int .i64 (nmR l 12 12 0 [] 0).1), .lst false [], .v (.int .i64 0)]) else .agg [.v (.int .i64 3), .lst false [], .v (.int .i64 0)]
theorem rn_bad {l : List Int} {c : Int} {ls : List ByteArray} {nx : Int} (h12 : 12 < l.length) (h : (c, ls, nx) = nmR l 12 12 0 [] 0) (hc : ¬ c = 0) : rnR l = .agg [.v (.int .i64 c), .lst false [], .v (.int .i64 0)] := by
  unfold rnR; rw [if_pos h12, ← h]; simp only; rw [if_neg hc]
theorem rn_ok {l : List Int} {ls : List ByteArray} {nx : Int} (h12 : 12 < l.length) (h : (0, ls, nx) = nmR l 12 12 0 [] 0) : rnR l = .agg [.v (.int .i64 0), textsL ls, .v (.int .i64 nx)] := by
  unfold rnR; rw [if_pos h12, ← h]; simp only; rw [if_pos trivial]
theorem nm_none {l : List Int} {f p j : Nat} {ls : List ByteArray} {nx : Int} (h : l[p]? = none) : nmR l (f + 1) p j ls nx = (5, ls, nx) := by rw [nmR, h]
theorem nm_zero {l : List Int} {f p j : Nat} {ls : List ByteArray} {nx : Int} {c : Int} (h : l[p]? = some c) (h0 : c = 0) : nmR l (f + 1) p j ls nx = (0, ls, if j = 0 then (p : Int) + 1 else nx) := by rw [nmR, h]; simp only; rw [if_pos h0]
theorem nm_lab {l : List Int} {f p j : Nat} {ls : List ByteArray} {nx : Int} {c : Int} (h : l[p]? = some c) (h0 : ¬ c = 0) (h20 : c ≤ 20) : nmR l (f + 1) p j ls nx = if p + 1 + c.toNat ≤ l.length ∧ labelOk (strOf ((l.drop (p + 1)).take c.toNat)) = true then (if ls.length = 6 then (2, ls, nx) else nmR l f (p + 1 + c.toNat) j (ls ++ [strOf ((l.drop (p + 1)).take c.toNat)]) nx) else (5, ls, nx) := by rw [nmR, h]; simp only; rw [if_neg h0, if_pos h20]
theorem nm_mid {l : List Int} {f p j : Nat} {ls : List ByteArray} {nx : Int} {c : Int} (h : l[p]? = some c) (h20 : ¬ c ≤ 20) (h192 : ¬ 192 ≤ c) : nmR l (f + 1) p j ls nx = (5, ls, nx) := by rw [nmR, h]; simp only; rw [if_neg (by omega), if_neg h20, if_neg h192]
theorem nm_end {l : List Int} {f p j : Nat} {ls : List ByteArray} {nx : Int} {c : Int} (h : l[p]? = some c) (h192 : 192 ≤ c) (h1 : l[p + 1]? = none) : nmR l (f + 1) p j ls nx = (5, ls, nx) := by rw [nmR, h]; simp only; rw [if_neg (by omega), if_neg (by omega), if_pos h192, h1]
theorem nm_jump {l : List Int} {f p j : Nat} {ls : List ByteArray} {nx : Int} {c d : Int} (h : l[p]? = some c) (h192 : 192 ≤ c) (h1 : l[p + 1]? = some d) : nmR l (f + 1) p j ls nx = if (p : Int) ≤ (c - 192) * 256 + d ∨ 5 < j + 1 then (5, ls, nx) else nmR l f ((c - 192) * 256 + d).toNat (j + 1) ls (if j = 0 then (p : Int) + 2 else nx) := by rw [nmR, h]; simp only; rw [if_neg (by omega), if_neg (by omega), if_pos h192, h1]
theorem strOf_size2 (l : List Int) : (strOf l).size = l.length := by show (List.toArray _).size = _; simp
theorem ok_iReadName : fnOk Tryz.prog cfg0 33 Tryz.f33 = true := by kernel_rfl
theorem p_iReadName (l : List Int) (hb : Eng.Bytes l) (hl : l.length ≤ 1048576) : ∃ cl, pure Tryz.prog cfg0 33 Tryz.f33 [bytesL l, .v (.int .i64 12)] = some (rnR l, cl) := by
  have key : ∃ v cl, v = (rnR l : AV) ∧ pure Tryz.prog cfg0 33 Tryz.f33 [bytesL l, .v (.int .i64 12)] = some (v, cl) := by
    refine pure_ex (rs := [.cell 4 68]) rfl rfl ?_
    have hp0 : ∀ b, cfg0.pol 33 b = 0 := fun b => rfl
    have hsub : IntKind.wrap .i64 ((l.length : Int) - 1) = (l.length : Int) - 1 := wrap_i64 (by omega) (by omega)
    by_cases h12 : 12 < l.length
    rotate_left
    · have hin : inB 12 0 ((l.length : Int) - 1) = false := inB_f.2 (by omega)
      rw [show rnR l = .agg [.v (.int .i64 3), .lst false [], .v (.int .i64 0)] from if_neg h12]
      (have hF := an hp0 <| an hsub <| an c_iin <| hin; have hc := trivial; repeat' (first | refine wK ?_ | refine wX ?_ | refine rR ?_ | refine rB ?_ ?_ <;> intro ht <;> try simp only [bbs] at ht | refine rG ?_ ?_ <;> intro hc | refine rZ ?_ | refine wQ ?_))
      all_goals try exact False.elim kk
      all_goals exact dirty rfl
    have hin : inB 12 0 ((l.length : Int) - 1) = true := inB_t.2 (by omega)
    (have hF := an hp0 <| an hsub <| an c_iin <| hin; have hc := trivial; repeat' (first | refine wK ?_ | refine wX ?_ | refine rR ?_ | refine rB ?_ ?_ <;> intro ht <;> try simp only [bbs] at ht | refine rG ?_ ?_ <;> intro hc | refine rZ ?_ | refine wQ ?_))
    all_goals try exact False.elim kk
    refine wLoop (fun k s => ∃ (i : Nat) (p : Nat) (jm : Nat) (ls : List ByteArray) (x : AV) (nx : Int), i + k = 12 ∧ s.1 0 = bytesL l ∧ s.1 4 = .ptr 0 0 ∧ s.1 5 = .ptr 1 0 ∧ s.1 6 = .v (.int .i64 (p : Nat)) ∧ s.1 7 = .v (.int .i64 (jm : Nat)) ∧ (nmR l (12 - i) p jm ls nx = nmR l 12 12 0 [] 0 ∧ i = jm + ls.length ∧ jm ≤ 5 ∧ ls.length ≤ 6 ∧ p ≤ l.length) ∧ (RAcc s.2 x 1 (ls.map txcell) ls.length) ∧ (s.2.h 0 = some [.v (.int .i64 0), .v (.slice none 0 0), .v (.int .i64 0)] ∧ s.2.h 1 = some [.v (.int .i64 0), x, .v (.int .i64 nx)] ∧ 1 < s.2.g) ∧ (Off 0 x ∧ Off 1 x)) (fun k s hI => ?_) (12) _ ?_
    · obtain ⟨e, H⟩ := s
      obtain ⟨i, p, jm, ls, x, nx, hi, h0, h4, h5, h6, h7, hst, hr, hbb, hoff⟩ := hI
      simp only at h0 h4 h5 h6 h7 hst hr hbb hoff
      obtain ⟨hst, hij, hj5, hl6, hpl⟩ := hst
      obtain ⟨hb0, hb1, hgg⟩ := hbb
      obtain ⟨f, hf⟩ : ∃ f, 12 - i = f + 1 := ⟨11 - i, by omega⟩
      have hf2 : 12 - (i + 1) = f := by omega
      rw [hf] at hst
      have xok := hr.one
      by_cases hlt : p < l.length
      rotate_left
      · have hltI : ¬ ((p : Nat) : Int) < (l.length : Int) := by omega
        have hN : l[p]? = none := List.getElem?_eq_none (by omega)
        rw [nm_none hN] at hst
        rw [rn_bad h12 hst (by omega)]
        (have hF := an hp0 <| an h0 <| an h4 <| an h6 <| an hltI <| hb0; have hc := trivial; repeat' (first | refine wK ?_ | refine wX ?_ | refine rR ?_ | refine rB ?_ ?_ <;> intro ht <;> try simp only [bbs] at ht | refine rG ?_ ?_ <;> intro hc | refine rZ ?_ | refine wQ ?_))
        all_goals try exact False.elim kk
        all_goals exact dirty rfl
      have hltI : ((p : Nat) : Int) < (l.length : Int) := by omega
      obtain ⟨c, hg, -, hm⟩ := at_drop hlt
      have hcb := hb c hm
      have wc : IntKind.wrap .i64 c = c := wrap_i64 (by omega) (by omega)
      have wp1 : IntKind.wrap .i64 (((p : Nat) : Int) + 1) = ((p + 1 : Nat) : Int) := wrap_succ (by omega)
      have wp2 : IntKind.wrap .i64 (((p : Nat) : Int) + 2) = ((p : Nat) : Int) + 2 := wrap_i64 (by omega) (by omega)
      by_cases c0 : c = 0
      · have c0T : (c = 0) = True := eq_true c0
        rw [nm_zero hg c0] at hst
        by_cases hj : jm = 0
        · have hjI : (((jm : Nat) : Int) = 0) = True := eq_true (by omega)
          rw [if_pos hj, show ((p : Nat) : Int) + 1 = ((p + 1 : Nat) : Int) by omega] at hst
          rw [rn_ok h12 hst]
          (have hF := an hp0 <| an h0 <| an h4 <| an h5 <| an h6 <| an h7 <| an hltI <| an hg <| an wc <| an c0T <| an hjI <| an wp1 <| an hb0 <| an hb1 <| an xok.1 <| an xok.2 <| (aconv_int u5 u3); have hc := trivial; repeat' (first | refine wK ?_ | refine wX ?_ | refine rR ?_ | refine rB ?_ ?_ <;> intro ht <;> try simp only [bbs] at ht | refine rG ?_ ?_ <;> intro hc | refine rZ ?_ | refine wQ ?_))
          all_goals try exact False.elim kk
          all_goals exact dirty (d_nm ((hr.setOff hoff.2 _).setOff hoff.1 _) _ _)
        · have hjI : ¬ ((jm : Nat) : Int) = 0 := by omega
          rw [if_neg hj] at hst
          rw [rn_ok h12 hst]
          (have hF := an hp0 <| an h0 <| an h4 <| an h5 <| an h6 <| an h7 <| an hltI <| an hg <| an wc <| an c0T <| an hjI <| an wp1 <| an hb0 <| an hb1 <| an xok.1 <| an xok.2 <| (aconv_int u5 u3); have hc := trivial; repeat' (first | refine wK ?_ | refine wX ?_ | refine rR ?_ | refine rB ?_ ?_ <;> intro ht <;> try simp only [bbs] at ht | refine rG ?_ ?_ <;> intro hc | refine rZ ?_ | refine wQ ?_))
          all_goals try exact False.elim kk
          all_goals exact dirty (d_nm (hr.setOff hoff.1 _) _ _)
      by_cases c20 : c ≤ 20
      · obtain ⟨n, hn⟩ : ∃ n : Nat, c = (n : Int) := ⟨c.toNat, by omega⟩
        subst hn
        rw [nm_lab hg c0 c20, Int.toNat_natCast] at hst
        have we : IntKind.wrap .i64 (((p + 1 : Nat) : Int) + (n : Int)) = ((p + 1 + n : Nat) : Int) := by rw [wrap_i64 (by omega) (by omega)]; omega
        by_cases hend : p + 1 + n ≤ l.length
        rotate_left
        · have hE : (l.length : Int) < ((p + 1 + n : Nat) : Int) := by omega
          rw [if_neg (fun h => hend h.1)] at hst
          rw [rn_bad h12 hst (by omega)]
          (have hF := an hp0 <| an h0 <| an h4 <| an h6 <| an hltI <| an hg <| an wc <| an wp1 <| an we <| an c0 <| an c20 <| an hE <| an hb0 <| (aconv_int u5 u3); have hc := trivial; repeat' (first | refine wK ?_ | refine wX ?_ | refine rR ?_ | refine rB ?_ ?_ <;> intro ht <;> try simp only [bbs] at ht | refine rG ?_ ?_ <;> intro hc | refine rZ ?_ | refine wQ ?_))
          all_goals try exact False.elim kk
          all_goals exact dirty rfl
        have hE : ¬ (l.length : Int) < ((p + 1 + n : Nat) : Int) := by omega
        have hsl : (p + 1 ≤ p + 1 + n ∧ p + 1 + n ≤ l.length) = True := eq_true ⟨by omega, hend⟩
        have hsb : p + 1 + n - (p + 1) = n := by omega
        have cvb := conv_bytesL u22 u9 u5
        have hcl := c_iisLabel (strOf ((l.drop (p + 1)).take n)) (by rw [strOf_size2]; simp; omega)
        generalize hlb : strOf ((l.drop (p + 1)).take n) = lab at *
        cases hlab : labelOk lab with
        | false =>
          rw [if_neg (by simp [hlab])] at hst
          rw [rn_bad h12 hst (by omega)]
          (have hF := an hp0 <| an h0 <| an h4 <| an h6 <| an hltI <| an hg <| an wc <| an wp1 <| an we <| an c0 <| an c20 <| an hE <| an hsl <| an hsb <| an cvb <| an hlb <| an hcl <| an hlab <| an hb0 <| (aconv_int u5 u3); have hc := trivial; repeat' (first | refine wK ?_ | refine wX ?_ | refine rR ?_ | refine rB ?_ ?_ <;> intro ht <;> try simp only [bbs] at ht | refine rG ?_ ?_ <;> intro hc | refine rZ ?_ | refine wQ ?_))
          all_goals try exact False.elim kk
          all_goals exact dirty rfl
        | true =>
          rw [if_pos ⟨hend, hlab⟩] at hst
          have hlen := hr.len 9
          by_cases l6 : ls.length = 6
          · have l6I : ((ls.length : Nat) : Int) = 6 := by omega
            rw [if_pos l6] at hst
            rw [rn_bad h12 hst (by omega)]
            (have hF := an hp0 <| an h0 <| an h4 <| an h5 <| an h6 <| an hltI <| an hg <| an wc <| an wp1 <| an we <| an c0 <| an c20 <| an hE <| an hsl <| an hsb <| an cvb <| an hlb <| an hcl <| an hlab <| an hb0 <| an hb1 <| an hlen <| an l6I <| (aconv_int u5 u3); have hc := trivial; repeat' (first | refine wK ?_ | refine wX ?_ | refine rR ?_ | refine rB ?_ ?_ <;> intro ht <;> try simp only [bbs] at ht | refine rG ?_ ?_ <;> intro hc | refine rZ ?_ | refine wQ ?_))
            all_goals try exact False.elim kk
            all_goals exact dirty rfl
          · have l6I : ¬ ((ls.length : Nat) : Int) = 6 := by omega
            rw [if_neg l6] at hst
            (have hF := an hp0 <| an h0 <| an h4 <| an h5 <| an h6 <| an hltI <| an hg <| an wc <| an wp1 <| an we <| an c0 <| an c20 <| an hE <| an hsl <| an hsb <| an cvb <| an hlb <| an hcl <| an hlab <| an hb0 <| an hb1 <| an hlen <| an l6I <| (aconv_int u5 u3); have hc := trivial; repeat' ((fail_if_success (first | refine wAt 18 ?_ | refine wAtL 18 ?_)); first | refine wK ?_ | refine wX ?_ | refine rR ?_ | refine rB ?_ ?_ <;> intro ht <;> try simp only [bbs] at ht | refine rG ?_ ?_ <;> intro hc | refine rZ ?_ | refine wQ ?_))
            all_goals try exact False.elim kk
            have hF := an hp0 <| an h0 <| an h5 <| an h6 <| an hb1 <| an wp1 <| an hsl <| an hsb <| an cvb <| hlb; have hc := trivial; (try refine wX ?_); refine rN (fun xx hx => ?_); generalize hq : aappend Tryz.prog _ _ _ _ = q at hx
            obtain ⟨x', K2, rfl, hacc, hg2, hk2, ho2⟩ := app_rows hq el24 zero9 by9 int24 (sz := 1) rfl (by omega) hr (m := 1) rfl (afirst_one _ _ [txcell lab]) rfl (by omega) (by omega)
            clear hq
            have k0 := (hk2 0 (by omega) hoff.1).trans hb0
            have k1 := (hk2 1 hgg hoff.2).trans hb1
            have o0 := ho2 0 (by omega) hoff.1
            have o1 := ho2 1 hgg hoff.2
            have xok' := hacc.one
            have gg : 1 < K2.g := by omega
            (subst hx; have hF := an hp0 <| an h5 <| an k1 <| an xok'.1 <| xok'.2; have hc := trivial; repeat' (first | refine rR ?_ | refine rG ?_ ?_ <;> intro hc | refine rZ ?_ | fail))
            (have hF := hp0; have hc := trivial; repeat' (first | refine wK ?_ | refine wX ?_ | refine rR ?_ | refine rB ?_ ?_ <;> intro ht <;> try simp only [bbs] at ht | refine rG ?_ ?_ <;> intro hc | refine rZ ?_ | refine wQ ?_))
            all_goals try exact False.elim kk
            have hS := an h0 <| an h4 <| an h5 <| an h6 <| h7; refine ⟨_, Nat.sub_lt (by omega) Nat.one_pos, i + 1, p + 1 + n, jm, ls ++ [lab], x', nx, by omega, sl, sl, sl, sl, sl, ?_⟩
            refine ⟨⟨?_, ?_, hj5, ?_, hend⟩, ?_, ⟨?_, ?_, gg⟩, o0, o1⟩
            · rw [hf2]; exact hst
            · simp only [List.length_append, List.length_singleton]; omega
            · simp only [List.length_append, List.length_singleton]; omega
            · rw [List.map_append, List.length_append]
              exact hacc.setOff o1 _
            · rw [Hp.set_h, if_neg (by omega)]; exact k0
            · rw [Hp.set_h, if_pos rfl]
      by_cases c192 : 192 ≤ c
      rotate_left
      · rw [nm_mid hg c20 c192] at hst
        rw [rn_bad h12 hst (by omega)]
        (have hF := an hp0 <| an h0 <| an h4 <| an h6 <| an hltI <| an hg <| an wc <| an c0 <| an c20 <| an c192 <| an hb0 <| (aconv_int u5 u3); have hc := trivial; repeat' (first | refine wK ?_ | refine wX ?_ | refine rR ?_ | refine rB ?_ ?_ <;> intro ht <;> try simp only [bbs] at ht | refine rG ?_ ?_ <;> intro hc | refine rZ ?_ | refine wQ ?_))
        all_goals try exact False.elim kk
        all_goals exact dirty rfl
      by_cases hp1 : p + 1 < l.length
      rotate_left
      · have hp1I : ¬ ((p + 1 : Nat) : Int) < (l.length : Int) := by omega
        have hN : l[p + 1]? = none := List.getElem?_eq_none (by omega)
        rw [nm_end hg c192 hN] at hst
        rw [rn_bad h12 hst (by omega)]
        (have hF := an hp0 <| an h0 <| an h4 <| an h6 <| an hltI <| an hg <| an wc <| an wp1 <| an c0 <| an c20 <| an c192 <| an hp1I <| an hb0 <| (aconv_int u5 u3); have hc := trivial; repeat' (first | refine wK ?_ | refine wX ?_ | refine rR ?_ | refine rB ?_ ?_ <;> intro ht <;> try simp only [bbs] at ht | refine rG ?_ ?_ <;> intro hc | refine rZ ?_ | refine wQ ?_))
        all_goals try exact False.elim kk
        all_goals exact dirty rfl
      have hp1I : ((p + 1 : Nat) : Int) < (l.length : Int) := by omega
      obtain ⟨d, hg1, -, hm1⟩ := at_drop hp1
      have hdb := hb d hm1
      obtain ⟨t, ett⟩ : ∃ t : Nat, (c - 192) * 256 + d = (t : Int) := ⟨((c - 192) * 256 + d).toNat, by omega⟩
      have wd : IntKind.wrap .i64 d = d := wrap_i64 (by omega) (by omega)
      have wq1 : IntKind.wrap .i64 (c - 192) = c - 192 := wrap_i64 (by omega) (by omega)
      have wq2 : IntKind.wrap .i64 ((c - 192) * 256) = (c - 192) * 256 := wrap_i64 (by omega) (by omega)
      have wq3 : IntKind.wrap .i64 ((c - 192) * 256 + d) = (t : Int) := by rw [wrap_i64 (by omega) (by omega)]; exact ett
      have wj : IntKind.wrap .i64 (((jm : Nat) : Int) + 1) = ((jm + 1 : Nat) : Int) := wrap_succ (by omega)
      rw [nm_jump hg c192 hg1, ett, Int.toNat_natCast] at hst
      by_cases hj : jm = 0
      · have hjI : (((jm : Nat) : Int) = 0) = True := eq_true (by omega)
        have h5I : ¬ 5 < ((jm + 1 : Nat) : Int) := by omega
        rw [if_pos hj] at hst
        by_cases hpt : ((p : Nat) : Int) ≤ (t : Int)
        · rw [if_pos (.inl hpt)] at hst
          rw [rn_bad h12 hst (by omega)]
          (have hF := an hp0 <| an h0 <| an h4 <| an h5 <| an h6 <| an h7 <| an hltI <| an hg <| an hg1 <| an wc <| an wd <| an wp1 <| an wp2 <| an wq1 <| an wq2 <| an wq3 <| an wj <| an c0 <| an c20 <| an c192 <| an hp1I <| an hjI <| an h5I <| an hpt <| an hb0 <| an hb1 <| an xok.1 <| an xok.2 <| (aconv_int u5 u3); have hc := trivial; repeat' (first | refine wK ?_ | refine wX ?_ | refine rR ?_ | refine rB ?_ ?_ <;> intro ht <;> try simp only [bbs] at ht | refine rG ?_ ?_ <;> intro hc | refine rZ ?_ | refine wQ ?_))
          all_goals try exact False.elim kk
          all_goals exact dirty rfl
        · rw [if_neg (by omega)] at hst
          (have hF := an hp0 <| an h0 <| an h4 <| an h5 <| an h6 <| an h7 <| an hltI <| an hg <| an hg1 <| an wc <| an wd <| an wp1 <| an wp2 <| an wq1 <| an wq2 <| an wq3 <| an wj <| an c0 <| an c20 <| an c192 <| an hp1I <| an hjI <| an h5I <| an hpt <| an hb0 <| an hb1 <| an xok.1 <| an xok.2 <| (aconv_int u5 u3); have hc := trivial; repeat' (first | refine wK ?_ | refine wX ?_ | refine rR ?_ | refine rB ?_ ?_ <;> intro ht <;> try simp only [bbs] at ht | refine rG ?_ ?_ <;> intro hc | refine rZ ?_ | refine wQ ?_))
          all_goals try exact False.elim kk
          have hS := an h0 <| an h4 <| an h5 <| an h6 <| h7; refine ⟨_, Nat.sub_lt (by omega) Nat.one_pos, i + 1, t, jm + 1, ls, x, (p : Int) + 2, by omega, sl, sl, sl, sl, sl, ?_⟩
          refine ⟨⟨?_, by omega, by omega, hl6, by omega⟩, hr.setOff hoff.2 _, ⟨?_, ?_, hgg⟩, hoff⟩
          · rw [hf2]; exact hst
          · rw [Hp.set_h, if_neg (by omega)]; exact hb0
          · rw [Hp.set_h, if_pos rfl]
      · have hjI : ¬ ((jm : Nat) : Int) = 0 := by omega
        rw [if_neg hj] at hst
        by_cases hpt : ((p : Nat) : Int) ≤ (t : Int)
        · rw [if_pos (.inl hpt)] at hst
          rw [rn_bad h12 hst (by omega)]
          (have hF := an hp0 <| an h0 <| an h4 <| an h5 <| an h6 <| an h7 <| an hltI <| an hg <| an hg1 <| an wc <| an wd <| an wp1 <| an wp2 <| an wq1 <| an wq2 <| an wq3 <| an wj <| an c0 <| an c20 <| an c192 <| an hp1I <| an hjI <| an hpt <| an hb0 <| an hb1 <| an xok.1 <| an xok.2 <| (aconv_int u5 u3); have hc := trivial; repeat' (first | refine wK ?_ | refine wX ?_ | refine rR ?_ | refine rB ?_ ?_ <;> intro ht <;> try simp only [bbs] at ht | refine rG ?_ ?_ <;> intro hc | refine rZ ?_ | refine wQ ?_))
          all_goals try exact False.elim kk
          all_goals exact dirty rfl
        · by_cases h5I : 5 < ((jm + 1 : Nat) : Int)
          · rw [if_pos (.inr (by omega))] at hst
            rw [rn_bad h12 hst (by omega)]
            (have hF := an hp0 <| an h0 <| an h4 <| an h5 <| an h6 <| an h7 <| an hltI <| an hg <| an hg1 <| an wc <| an wd <| an wp1 <| an wp2 <| an wq1 <| an wq2 <| an wq3 <| an wj <| an c0 <| an c20 <| an c192 <| an hp1I <| an hjI <| an hpt <| an h5I <| an hb0 <| an hb1 <| an xok.1 <| an xok.2 <| (aconv_int u5 u3); have hc := trivial; repeat' (first | refine wK ?_ | refine wX ?_ | refine rR ?_ | refine rB ?_ ?_ <;> intro ht <;> try simp only [bbs] at ht | refine rG ?_ ?_ <;> intro hc | refine rZ ?_ | refine wQ ?_))
            all_goals try exact False.elim kk
            all_goals exact dirty rfl
          · rw [if_neg (by omega)] at hst
            (have hF := an hp0 <| an h0 <| an h4 <| an h5 <| an h6 <| an h7 <| an hltI <| an hg <| an hg1 <| an wc <| an wd <| an wp1 <| an wp2 <| an wq1 <| an wq2 <| an wq3 <| an wj <| an c0 <| an c20 <| an c192 <| an hp1I <| an hjI <| an hpt <| an h5I <| an hb0 <| an hb1 <| an xok.1 <| an xok.2 <| (aconv_int u5 u3); have hc := trivial; repeat' (first | refine wK ?_ | refine wX ?_ | refine rR ?_ | refine rB ?_ ?_ <;> intro ht <;> try simp only [bbs] at ht | refine rG ?_ ?_ <;> intro hc | refine rZ ?_ | refine wQ ?_))
            all_goals try exact False.elim kk
            have hS := an h0 <| an h4 <| an h5 <| an h6 <| h7; refine ⟨_, Nat.sub_lt (by omega) Nat.one_pos, i + 1, t, jm + 1, ls, x, nx, by omega, sl, sl, sl, sl, sl, ?_⟩
            exact ⟨⟨by rw [hf2]; exact hst, by omega, by omega, hl6, by omega⟩, hr, ⟨hb0, hb1, hgg⟩, hoff⟩
    · refine ⟨0, 12, 0, [], .v (.slice none 0 0), 0, by omega, rfl, rfl, rfl, rfl, rfl, ?_⟩
      exact ⟨⟨rfl, rfl, by omega, by simp, by omega⟩, RAcc.nil, ⟨rfl, rfl, by simp⟩, off_nil, off_nil⟩
  obtain ⟨v, cl, rfl, hp⟩ := key
  exact ⟨cl, hp⟩
theorem c_iReadName (l : List Int) (hb : Eng.Bytes l) (hl : l.length ≤ 1048576) : ∀ H, call Tryz.prog cfg0 0 33 [bytesL l, .v (.int .i64 12)] H = some (rnR l, H) := fun H => by
  obtain ⟨cl, hp⟩ := p_iReadName l hb hl
  exact call_fz Tryz.func33 rfl ok_iReadName rfl (by simp only [fz_cons, fz_nil, go_sem, and_self]) hp H

end
end Go.Proofs.YtnejoidfbgklbaaGreatDoor
namespace Go.Proofs.YtnejoidfbgklbaaGreatDoor
open Go Go.RowKit Go.Proofs.YtnejoidfbgklbaaGreatDoor.Eng
set_option linter.unusedSimpArgs false
set_option linter.unusedVariables false
set_option maxRecDepth 100000
set_option maxHeartbeats 4000000
noncomputable section
/-- What the reference reads. -/
def srR (l : List Int) : AV := .tup [.agg [textsL (nmR l 12 12 0 [] (-1)).2.1, .v (.int .i64 (nmR l 12 12 0 [] (-1)).2.2)], .v (.int .i64 (nmR l 12 12 0 [] (-1)).1)]
theorem sr_is {l : List Int} {c : Int} {ls : List ByteArray} {nx : Int} (h : (c, ls, nx) = nmR l 12 12 0 [] (-1)) : srR l = .tup [.agg [textsL ls, .v (.int .i64 nx)], .v (.int .i64 c)] := by unfold srR; rw [← h]
theorem d_sr {H : Hp} {x : AV} {n : Nat} {ls : List ByteArray} (h : RAcc H x 1 (ls.map txcell) n) (c nx : Int) : deep H depthD (.tup [.agg [x, .v (.int .i64 nx)], .v (.int .i64 c)]) = some (.tup [.agg [textsL ls, .v (.int .i64 nx)], .v (.int .i64 c)]) := by
  have e : deep H 11 (.agg [x, .v (.int .i64 nx)]) = some (.agg [textsL ls, .v (.int .i64 nx)]) := by
    show ([x, .v (.int .i64 nx)].mapM (deep H 10)).map AV.agg = _
    rw [mapM_c (deep_labs h 8) (mapM_c (show deep H 10 (.v (.int .i64 nx)) = some (.v (.int .i64 nx)) from rfl) mapM_n)]
    rfl
  show ([AV.agg [x, .v (.int .i64 nx)], .v (.int .i64 c)].mapM (deep H 11)).map AV.tup = _
  rw [mapM_c e (mapM_c (show deep H 11 (.v (.int .i64 c)) = some (.v (.int .i64 c)) from rfl) mapM_n)]
  rfl
theorem gF_labs {H : Hp} {x : AV} {n : Nat} {ls : List ByteArray} (h : RAcc H x 1 (ls.map txcell) n) (d : Nat) : GivesF (d + 2) (textsL ls) x H := by
  have hn : n = ls.length := by have := h.1; simpa using this.symm
  subst hn
  rcases h.2 with ⟨h0, e⟩ | ⟨b, hb, rfl, hh⟩
  · have e0 : ls = [] := List.length_eq_zero_iff.1 h0
    subst e0
    rcases e with rfl | rfl
    · exact gF_lstT (d + 1) H
    · exact gF_nil (d + 1) H
  · obtain ⟨fp, f1, f2, -⟩ := fpt_flat (d := d + 1) hh (sz := 1) (o := 0) (n := ls.length) (fun c hc => by obtain ⟨s, -, rfl⟩ := List.mem_map.1 hc; rfl)
    refine ⟨deep_txts hh rfl hb d, ?_, fp, f1, f2⟩
    show ((((H.h b).getD []).drop 0).take (ls.length * 1)).all (clean H (d + 1)) = true
    rw [hh]
    refine List.all_eq_true.2 fun y hy => ?_
    have := List.mem_of_mem_drop (List.mem_of_mem_take hy)
    obtain ⟨z, -, rfl⟩ := List.mem_map.1 this; rfl
theorem gO_sr {H : Hp} {x : AV} {n : Nat} {ls : List ByteArray} (h : RAcc H x 1 (ls.map txcell) n) (c nx : Int) : GivesO (.tup [.agg [textsL ls, .v (.int .i64 nx)], .v (.int .i64 c)]) (.tup [.agg [x, .v (.int .i64 nx)], .v (.int .i64 c)]) H := by
  obtain ⟨h1, h2, fp, h3, h4⟩ := gF_labs h 8
  refine ⟨⟨d_sr h c nx, ?_⟩, fp, ?_, h4⟩
  · show ((clean H 10 x && (true && true)) && (true && true)) = true
    rw [show clean H 10 x = true from h2]; rfl
  · show (List.mapM (fpt H 11) [AV.agg [x, .v (.int .i64 nx)], .v (.int .i64 c)]).map List.flatten = some fp
    have h3 : fpt H 10 x = some fp := h3
    have e0 : ∀ (d : Nat) (z : Int), fpt H (d + 1) (.v (.int .i64 z)) = some [] := fun _ _ => rfl
    have e : fpt H 11 (.agg [x, .v (.int .i64 nx)]) = some fp := by
      show (List.mapM (fpt H 10) [x, .v (.int .i64 nx)]).map List.flatten = some fp
      simp only [List.mapM_cons, List.mapM_nil, h3, e0, Option.pure_def, Option.bind_eq_bind, Option.bind_some, Option.map_some]
      simp
    simp only [List.mapM_cons, List.mapM_nil, e, e0, Option.pure_def, Option.bind_eq_bind, Option.bind_some, Option.map_some]
    simp
theorem ok_sl10Read : fnOk Tryz.prog cfg0 54 Tryz.f54 = true := by kernel_rfl
theorem pq_sl10Read (l : List Int) (hb : Eng.Bytes l) (hl : l.length ≤ 1048576) (h12 : 12 ≤ l.length) : pure Tryz.prog cfg0 54 Tryz.f54 [bytesL l, .v (.int .i64 12)] = some (srR l, true) ∧ owned Tryz.prog cfg0 54 Tryz.f54 [bytesL l, .v (.int .i64 12)] = some (srR l) := by
  refine both_wp (rs := [.cell 4 66, .tmp 5]) rfl rfl ?_
  have hp0 : ∀ b, cfg0.pol 54 b = 0 := fun b => rfl
  (have hF := hp0; have hc := trivial; repeat' (first | refine wK ?_ | refine wX ?_ | refine rR ?_ | refine rB ?_ ?_ <;> intro ht <;> try simp only [bbs] at ht | refine rG ?_ ?_ <;> intro hc | refine rZ ?_ | refine wQ ?_))
  all_goals try exact False.elim kk
  refine wLoop (fun k s => ∃ (i : Nat) (p : Nat) (jm : Nat) (ls : List ByteArray) (x : AV) (nx : Int), i + k = 12 ∧ s.1 0 = bytesL l ∧ s.1 1 = .v (.int .i64 (p : Nat)) ∧ s.1 4 = .ptr 0 0 ∧ s.1 6 = .ptr 1 0 ∧ s.1 7 = .v (.int .i64 (l.length : Nat)) ∧ s.1 8 = .v (.int .i64 (jm : Nat)) ∧ (nmR l (12 - i) p jm ls nx = nmR l 12 12 0 [] (-1) ∧ i = jm + ls.length ∧ jm ≤ 5 ∧ ls.length ≤ 6 ∧ p ≤ l.length) ∧ (RAcc s.2 x 1 (ls.map txcell) ls.length) ∧ (s.2.h 0 = some [.v (.slice none 0 0), .v (.int .i64 0)] ∧ s.2.h 1 = some [x, .v (.int .i64 nx)] ∧ 1 < s.2.g) ∧ (Off 0 x ∧ Off 1 x)) (fun k s hI => ?_) (12) _ ?_
  · obtain ⟨e, H⟩ := s
    obtain ⟨i, p, jm, ls, x, nx, hi, h0, h1, h4, h6, h7, h8, hst, hr, hbb, hoff⟩ := hI
    simp only at h0 h1 h4 h6 h7 h8 hst hr hbb hoff
    obtain ⟨hst, hij, hj5, hl6, hpl⟩ := hst
    obtain ⟨hb0, hb1, hgg⟩ := hbb
    obtain ⟨f, hf⟩ : ∃ f, 12 - i = f + 1 := ⟨11 - i, by omega⟩
    have hf2 : 12 - (i + 1) = f := by omega
    rw [hf] at hst
    have xok := hr.one
    have hr0 := fun ds => hr.setOff hoff.1 ds
    by_cases hlt : p < l.length
    rotate_left
    · have hltI : ¬ ((p : Nat) : Int) < (l.length : Int) := by omega
      have hN : l[p]? = none := List.getElem?_eq_none (by omega)
      rw [nm_none hN] at hst
      rw [sr_is hst]
      (have hF := an hp0 <| an h0 <| an h1 <| an h4 <| an h6 <| an h7 <| an hltI <| an hb0 <| an hb1 <| an xok.1 <| xok.2; have hc := trivial; repeat' (first | refine wK ?_ | refine wX ?_ | refine rR ?_ | refine rB ?_ ?_ <;> intro ht <;> try simp only [bbs] at ht | refine rG ?_ ?_ <;> intro hc | refine rZ ?_ | refine wQ ?_))
      all_goals try exact False.elim kk
      all_goals exact gO_sr (hr0 _) _ _
    have hltI : ((p : Nat) : Int) < (l.length : Int) := by omega
    obtain ⟨c, hg, -, hm⟩ := at_drop hlt
    have hcb := hb c hm
    have wc : IntKind.wrap .i64 c = c := wrap_i64 (by omega) (by omega)
    have wp1 : IntKind.wrap .i64 (((p : Nat) : Int) + 1) = ((p + 1 : Nat) : Int) := wrap_succ (by omega)
    have wp2 : IntKind.wrap .i64 (((p : Nat) : Int) + 2) = ((p : Nat) : Int) + 2 := wrap_i64 (by omega) (by omega)
    by_cases c0 : c = 0
    · have c0T : (c = 0) = True := eq_true c0
      rw [nm_zero hg c0] at hst
      by_cases hj : jm = 0
      · have hjI : (((jm : Nat) : Int) = 0) = True := eq_true (by omega)
        rw [if_pos hj, show ((p : Nat) : Int) + 1 = ((p + 1 : Nat) : Int) by omega] at hst
        rw [sr_is hst]
        (have hF := an hp0 <| an h0 <| an h1 <| an h4 <| an h6 <| an h7 <| an h8 <| an hltI <| an hg <| an wc <| an c0T <| an hjI <| an wp1 <| an hb0 <| an hb1 <| an xok.1 <| an xok.2 <| (aconv_int u5 u2); have hc := trivial; repeat' (first | refine wK ?_ | refine wX ?_ | refine rR ?_ | refine rB ?_ ?_ <;> intro ht <;> try simp only [bbs] at ht | refine rG ?_ ?_ <;> intro hc | refine rZ ?_ | refine wQ ?_))
        all_goals try exact False.elim kk
        all_goals exact gO_sr ((hr.setOff hoff.2 _).setOff hoff.1 _) _ _
      · have hjI : ¬ ((jm : Nat) : Int) = 0 := by omega
        rw [if_neg hj] at hst
        rw [sr_is hst]
        (have hF := an hp0 <| an h0 <| an h1 <| an h4 <| an h6 <| an h7 <| an h8 <| an hltI <| an hg <| an wc <| an c0T <| an hjI <| an wp1 <| an hb0 <| an hb1 <| an xok.1 <| an xok.2 <| (aconv_int u5 u2); have hc := trivial; repeat' (first | refine wK ?_ | refine wX ?_ | refine rR ?_ | refine rB ?_ ?_ <;> intro ht <;> try simp only [bbs] at ht | refine rG ?_ ?_ <;> intro hc | refine rZ ?_ | refine wQ ?_))
        all_goals try exact False.elim kk
        all_goals exact gO_sr (hr0 _) _ _
    by_cases c192 : 192 ≤ c
    · by_cases hp1 : p + 1 < l.length
      rotate_left
      · have hp1I : (l.length : Int) ≤ ((p + 1 : Nat) : Int) := by omega
        have hN : l[p + 1]? = none := List.getElem?_eq_none (by omega)
        rw [nm_end hg c192 hN] at hst
        rw [sr_is hst]
        (have hF := an hp0 <| an h0 <| an h1 <| an h4 <| an h6 <| an h7 <| an hltI <| an hg <| an wc <| an wp1 <| an c0 <| an c192 <| an hp1I <| an hb0 <| an hb1 <| an xok.1 <| an xok.2 <| (aconv_int u5 u2); have hc := trivial; repeat' (first | refine wK ?_ | refine wX ?_ | refine rR ?_ | refine rB ?_ ?_ <;> intro ht <;> try simp only [bbs] at ht | refine rG ?_ ?_ <;> intro hc | refine rZ ?_ | refine wQ ?_))
        all_goals try exact False.elim kk
        all_goals exact gO_sr (hr0 _) _ _
      have hp1I : ¬ (l.length : Int) ≤ ((p + 1 : Nat) : Int) := by omega
      obtain ⟨d, hg1, -, hm1⟩ := at_drop hp1
      have hdb := hb d hm1
      obtain ⟨t, ett⟩ : ∃ t : Nat, (c - 192) * 256 + d = (t : Int) := ⟨((c - 192) * 256 + d).toNat, by omega⟩
      have wd : IntKind.wrap .i64 d = d := wrap_i64 (by omega) (by omega)
      have wq1 : IntKind.wrap .i64 (c - 192) = c - 192 := wrap_i64 (by omega) (by omega)
      have wq2 : IntKind.wrap .i64 ((c - 192) * 256) = (c - 192) * 256 := wrap_i64 (by omega) (by omega)
      have wq3 : IntKind.wrap .i64 ((c - 192) * 256 + d) = (t : Int) := by rw [wrap_i64 (by omega) (by omega)]; exact ett
      have wj : IntKind.wrap .i64 (((jm : Nat) : Int) + 1) = ((jm + 1 : Nat) : Int) := wrap_succ (by omega)
      rw [nm_jump hg c192 hg1, ett, Int.toNat_natCast] at hst
      by_cases hpt : ((p : Nat) : Int) ≤ (t : Int)
      · rw [if_pos (.inl hpt)] at hst
        rw [sr_is hst]
        (have hF := an hp0 <| an h0 <| an h1 <| an h4 <| an h6 <| an h7 <| an h8 <| an hltI <| an hg <| an hg1 <| an wc <| an wd <| an wp1 <| an wq1 <| an wq2 <| an wq3 <| an wj <| an c0 <| an c192 <| an hp1I <| an hpt <| an hb0 <| an hb1 <| an xok.1 <| an xok.2 <| (aconv_int u5 u2); have hc := trivial; repeat' (first | refine wK ?_ | refine wX ?_ | refine rR ?_ | refine rB ?_ ?_ <;> intro ht <;> try simp only [bbs] at ht | refine rG ?_ ?_ <;> intro hc | refine rZ ?_ | refine wQ ?_))
        all_goals try exact False.elim kk
        all_goals exact gO_sr (hr0 _) _ _
      by_cases h5I : 5 < ((jm + 1 : Nat) : Int)
      · rw [if_pos (.inr (by omega))] at hst
        rw [sr_is hst]
        (have hF := an hp0 <| an h0 <| an h1 <| an h4 <| an h6 <| an h7 <| an h8 <| an hltI <| an hg <| an hg1 <| an wc <| an wd <| an wp1 <| an wq1 <| an wq2 <| an wq3 <| an wj <| an c0 <| an c192 <| an hp1I <| an hpt <| an h5I <| an hb0 <| an hb1 <| an xok.1 <| an xok.2 <| (aconv_int u5 u2); have hc := trivial; repeat' (first | refine wK ?_ | refine wX ?_ | refine rR ?_ | refine rB ?_ ?_ <;> intro ht <;> try simp only [bbs] at ht | refine rG ?_ ?_ <;> intro hc | refine rZ ?_ | refine wQ ?_))
        all_goals try exact False.elim kk
        all_goals exact gO_sr (hr0 _) _ _
      rw [if_neg (by omega)] at hst
      by_cases hj : jm = 0
      · have hjI : ((jm + 1 : Nat) : Int) = 1 := by omega
        have hjT : (((jm + 1 : Nat) : Int) = 1) = True := eq_true hjI
        rw [if_pos hj] at hst
        (have hF := an hp0 <| an h0 <| an h1 <| an h4 <| an h6 <| an h7 <| an h8 <| an hltI <| an hg <| an hg1 <| an wc <| an wd <| an wp1 <| an wp2 <| an wq1 <| an wq2 <| an wq3 <| an wj <| an c0 <| an c192 <| an hp1I <| an hjT <| an h5I <| an hpt <| an hb0 <| an hb1 <| an xok.1 <| an xok.2 <| (aconv_int u5 u2); have hc := trivial; repeat' (first | refine wK ?_ | refine wX ?_ | refine rR ?_ | refine rB ?_ ?_ <;> intro ht <;> try simp only [bbs] at ht | refine rG ?_ ?_ <;> intro hc | refine rZ ?_ | refine wQ ?_))
        all_goals try exact False.elim kk
        have hS := an h0 <| an h1 <| an h4 <| an h6 <| an h7 <| h8; refine ⟨_, Nat.sub_lt (by omega) Nat.one_pos, i + 1, t, jm + 1, ls, x, (p : Int) + 2, by omega, sl, sl, sl, sl, sl, sl, ?_⟩
        refine ⟨⟨?_, by omega, by omega, hl6, by omega⟩, hr.setOff hoff.2 _, ⟨?_, ?_, hgg⟩, hoff⟩
        · rw [hf2]; exact hst
        · rw [Hp.set_h, if_neg (by omega)]; exact hb0
        · rw [Hp.set_h, if_pos rfl]
      · have hjI : ¬ ((jm + 1 : Nat) : Int) = 1 := by omega
        rw [if_neg hj] at hst
        (have hF := an hp0 <| an h0 <| an h1 <| an h4 <| an h6 <| an h7 <| an h8 <| an hltI <| an hg <| an hg1 <| an wc <| an wd <| an wp1 <| an wp2 <| an wq1 <| an wq2 <| an wq3 <| an wj <| an c0 <| an c192 <| an hp1I <| an hjI <| an hpt <| an h5I <| an hb0 <| an hb1 <| an xok.1 <| an xok.2 <| (aconv_int u5 u2); have hc := trivial; repeat' (first | refine wK ?_ | refine wX ?_ | refine rR ?_ | refine rB ?_ ?_ <;> intro ht <;> try simp only [bbs] at ht | refine rG ?_ ?_ <;> intro hc | refine rZ ?_ | refine wQ ?_))
        all_goals try exact False.elim kk
        have hS := an h0 <| an h1 <| an h4 <| an h6 <| an h7 <| h8; refine ⟨_, Nat.sub_lt (by omega) Nat.one_pos, i + 1, t, jm + 1, ls, x, nx, by omega, sl, sl, sl, sl, sl, sl, ?_⟩
        exact ⟨⟨by rw [hf2]; exact hst, by omega, by omega, hl6, by omega⟩, hr, ⟨hb0, hb1, hgg⟩, hoff⟩
    by_cases c20 : c ≤ 20
    rotate_left
    · rw [nm_mid hg c20 c192] at hst
      rw [sr_is hst]
      (have hF := an hp0 <| an h0 <| an h1 <| an h4 <| an h6 <| an h7 <| an hltI <| an hg <| an wc <| an c0 <| an c20 <| an c192 <| an hb0 <| an hb1 <| an xok.1 <| an xok.2 <| (aconv_int u5 u2); have hc := trivial; repeat' (first | refine wK ?_ | refine wX ?_ | refine rR ?_ | refine rB ?_ ?_ <;> intro ht <;> try simp only [bbs] at ht | refine rG ?_ ?_ <;> intro hc | refine rZ ?_ | refine wQ ?_))
      all_goals try exact False.elim kk
      all_goals exact gO_sr (hr0 _) _ _
    obtain ⟨n, hn⟩ : ∃ n : Nat, c = (n : Int) := ⟨c.toNat, by omega⟩
    subst hn
    rw [nm_lab hg c0 c20, Int.toNat_natCast] at hst
    have we : IntKind.wrap .i64 (((p + 1 : Nat) : Int) + (n : Int)) = ((p + 1 + n : Nat) : Int) := by rw [wrap_i64 (by omega) (by omega)]; omega
    by_cases hend : p + 1 + n ≤ l.length
    rotate_left
    · have hE : ¬ ((p + 1 + n : Nat) : Int) ≤ (l.length : Int) := by omega
      rw [if_neg (fun h => hend h.1)] at hst
      rw [sr_is hst]
      (have hF := an hp0 <| an h0 <| an h1 <| an h4 <| an h6 <| an h7 <| an hltI <| an hg <| an wc <| an wp1 <| an we <| an c0 <| an c20 <| an c192 <| an hE <| an hb0 <| an hb1 <| an xok.1 <| an xok.2 <| (aconv_int u5 u2); have hc := trivial; repeat' (first | refine wK ?_ | refine wX ?_ | refine rR ?_ | refine rB ?_ ?_ <;> intro ht <;> try simp only [bbs] at ht | refine rG ?_ ?_ <;> intro hc | refine rZ ?_ | refine wQ ?_))
      all_goals try exact False.elim kk
      all_goals exact gO_sr (hr0 _) _ _
    have hE : ((p + 1 + n : Nat) : Int) ≤ (l.length : Int) := by omega
    have hsl : (p + 1 ≤ p + 1 + n ∧ p + 1 + n ≤ l.length) = True := eq_true ⟨by omega, hend⟩
    have hsb : p + 1 + n - (p + 1) = n := by omega
    have cvb := conv_bytesL u22 u9 u5
    have hcl := c_sl10Label (strOf ((l.drop (p + 1)).take n)) (by rw [strOf_size2]; simp; omega)
    generalize hlb : strOf ((l.drop (p + 1)).take n) = lab at *
    cases hlab : labelOk lab with
    | false =>
      rw [if_neg (by simp [hlab])] at hst
      rw [sr_is hst]
      (have hF := an hp0 <| an h0 <| an h1 <| an h4 <| an h6 <| an h7 <| an hltI <| an hg <| an wc <| an wp1 <| an we <| an c0 <| an c20 <| an c192 <| an hE <| an hsl <| an hsb <| an cvb <| an hlb <| an hcl <| an hlab <| an hb0 <| an hb1 <| an xok.1 <| an xok.2 <| (aconv_int u5 u2); have hc := trivial; repeat' (first | refine wK ?_ | refine wX ?_ | refine rR ?_ | refine rB ?_ ?_ <;> intro ht <;> try simp only [bbs] at ht | refine rG ?_ ?_ <;> intro hc | refine rZ ?_ | refine wQ ?_))
      all_goals try exact False.elim kk
      all_goals exact gO_sr (hr0 _) _ _
    | true =>
      rw [if_pos ⟨hend, hlab⟩] at hst
      have hlen := hr.len 9
      by_cases l6 : ls.length = 6
      · have l6I : 6 ≤ ((ls.length : Nat) : Int) := by omega
        rw [if_pos l6] at hst
        rw [sr_is hst]
        (have hF := an hp0 <| an h0 <| an h1 <| an h4 <| an h6 <| an h7 <| an hltI <| an hg <| an wc <| an wp1 <| an we <| an c0 <| an c20 <| an c192 <| an hE <| an hsl <| an hsb <| an cvb <| an hlb <| an hcl <| an hlab <| an hb0 <| an hb1 <| an hlen <| an l6I <| an xok.1 <| an xok.2 <| (aconv_int u5 u2); have hc := trivial; repeat' (first | refine wK ?_ | refine wX ?_ | refine rR ?_ | refine rB ?_ ?_ <;> intro ht <;> try simp only [bbs] at ht | refine rG ?_ ?_ <;> intro hc | refine rZ ?_ | refine wQ ?_))
        all_goals try exact False.elim kk
        all_goals exact gO_sr (hr0 _) _ _
      · have l6I : ¬ 6 ≤ ((ls.length : Nat) : Int) := by omega
        rw [if_neg l6] at hst
        (have hF := an hp0 <| an h0 <| an h1 <| an h4 <| an h6 <| an h7 <| an hltI <| an hg <| an wc <| an wp1 <| an we <| an c0 <| an c20 <| an c192 <| an hE <| an hsl <| an hsb <| an cvb <| an hlb <| an hcl <| an hlab <| an hb0 <| an hb1 <| an hlen <| an l6I <| (aconv_int u5 u2); have hc := trivial; repeat' ((fail_if_success (first | refine wAt 24 ?_ | refine wAtL 24 ?_)); first | refine wK ?_ | refine wX ?_ | refine rR ?_ | refine rB ?_ ?_ <;> intro ht <;> try simp only [bbs] at ht | refine rG ?_ ?_ <;> intro hc | refine rZ ?_ | refine wQ ?_))
        all_goals try exact False.elim kk
        have hF := an hp0 <| an h0 <| an h1 <| an h6 <| an hb1 <| an wp1 <| an we <| an hsl <| an hsb <| an cvb <| hlb; have hc := trivial; (try refine wX ?_); refine rN (fun xx hx => ?_); generalize hq : aappend Tryz.prog _ _ _ _ = q at hx
        obtain ⟨x', K2, rfl, hacc, hg2, hk2, ho2⟩ := app_rows hq el24 zero9 by9 int24 (sz := 1) rfl (by omega) hr (m := 1) rfl (afirst_one _ _ [txcell lab]) rfl (by omega) (by omega)
        clear hq
        have k0 := (hk2 0 (by omega) hoff.1).trans hb0
        have k1 := (hk2 1 hgg hoff.2).trans hb1
        have o0 := ho2 0 (by omega) hoff.1
        have o1 := ho2 1 hgg hoff.2
        have xok' := hacc.one
        have gg : 1 < K2.g := by omega
        (subst hx; have hF := an hp0 <| an h6 <| an k1 <| an xok'.1 <| xok'.2; have hc := trivial; repeat' (first | refine rR ?_ | refine rG ?_ ?_ <;> intro hc | refine rZ ?_ | fail))
        (have hF := an hp0 <| an h1 <| an wp1 <| we; have hc := trivial; repeat' (first | refine wK ?_ | refine wX ?_ | refine rR ?_ | refine rB ?_ ?_ <;> intro ht <;> try simp only [bbs] at ht | refine rG ?_ ?_ <;> intro hc | refine rZ ?_ | refine wQ ?_))
        all_goals try exact False.elim kk
        have hS := an h0 <| an h1 <| an h4 <| an h6 <| an h7 <| h8; refine ⟨_, Nat.sub_lt (by omega) Nat.one_pos, i + 1, p + 1 + n, jm, ls ++ [lab], x', nx, by omega, sl, sl, sl, sl, sl, sl, ?_⟩
        refine ⟨⟨?_, ?_, hj5, ?_, hend⟩, ?_, ⟨?_, ?_, gg⟩, o0, o1⟩
        · rw [hf2]; exact hst
        · simp only [List.length_append, List.length_singleton]; omega
        · simp only [List.length_append, List.length_singleton]; omega
        · rw [List.map_append, List.length_append]
          exact hacc.setOff o1 _
        · rw [Hp.set_h, if_neg (by omega)]; exact k0
        · rw [Hp.set_h, if_pos rfl]
  · refine ⟨0, 12, 0, [], .v (.slice none 0 0), -1, by omega, rfl, rfl, rfl, rfl, rfl, rfl, ?_⟩
    exact ⟨⟨rfl, rfl, by omega, by simp, h12⟩, RAcc.nil, ⟨rfl, rfl, by simp⟩, off_nil, off_nil⟩
theorem c_sl10Read (l : List Int) (hb : Eng.Bytes l) (hl : l.length ≤ 1048576) (h12 : 12 ≤ l.length) : ∀ H, call Tryz.prog cfg0 0 54 [bytesL l, .v (.int .i64 12)] H = some (srR l, H) :=
  call_fz Tryz.func54 rfl ok_sl10Read rfl (by simp only [fz_cons, fz_nil, go_sem, and_self]) (pq_sl10Read l hb hl h12).1
theorem o_sl10Read (l : List Int) (hb : Eng.Bytes l) (hl : l.length ≤ 1048576) (h12 : 12 ≤ l.length) : ∀ H, call Tryz.prog cfg0 1 54 [bytesL l, .v (.int .i64 12)] H = mat depthD (srR l) H := fun H =>
  call_ofO Tryz.func54 rfl ok_sl10Read rfl (mapM_self fun x hx => ((show ∀ x ∈ ([bytesL l, .v (.int .i64 12)] : List AV), Fz depthD x by simp only [fz_cons, fz_nil, go_sem, and_self]) x hx).1 H) (pq_sl10Read l hb hl h12).2

end
end Go.Proofs.YtnejoidfbgklbaaGreatDoor
