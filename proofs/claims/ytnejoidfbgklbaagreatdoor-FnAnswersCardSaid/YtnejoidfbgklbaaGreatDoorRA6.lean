/- Contracts: answers read, the program's side. -/
import Derived.Test.YtnejoidfbgklbaaGreatDoorRA5
namespace Go.Proofs.YtnejoidfbgklbaaGreatDoor
open Go Go.RowKit Go.Proofs.YtnejoidfbgklbaaGreatDoor.Eng
set_option linter.unusedSimpArgs false
set_option linter.unusedVariables false
set_option maxRecDepth 100000
set_option maxHeartbeats 4000000
noncomputable section
theorem gF_recs {H : Hp} {x : AV} {acc : List RecordM} (h : RAcc H x 3 (acc.map encRecord).flatten acc.length) : GivesF 11 (.lst false (acc.map encRecord)) x H :=
  gF_racc (n := 1) (d := 10) (lo := 0) (hi := 0) (Laid.flat (H := H) (Nat.le_refl _) _ fun y hy => by
    obtain ⟨c, hc, hy⟩ := List.mem_flatten.1 hy
    obtain ⟨r, -, rfl⟩ := List.mem_map.1 hc
    simp only [encRecord, List.mem_cons, List.not_mem_nil, or_false] at hy
    rcases hy with rfl | rfl | rfl <;> exact ⟨_, rfl⟩) h (fun b h1 h2 => by omega) (by omega) (by simp) (by omega) (fun c hc => by obtain ⟨r, -, rfl⟩ := List.mem_map.1 hc; rfl) (fun c hc y hy => by
    obtain ⟨r, -, rfl⟩ := List.mem_map.1 hc
    simp only [encRecord, List.mem_cons, List.not_mem_nil, or_false] at hy
    rcases hy with rfl | rfl | rfl <;> exact MatG.int _ _ _)
theorem gO_ar {c i s : Int} {b : Bool} {acc : List RecordM} {x : AV} {H : Hp} (h : RAcc H x 3 (acc.map encRecord).flatten acc.length) : GivesO (arA c i s b acc) (.agg [.v (.int .i64 c), .v (.int .i64 i), .v (.int .i64 s), .v (.bool b), x]) H := by
  refine gF_O (gF_agg (n := 10) (gF_recs h) [.v (.int .i64 c), .v (.int .i64 i), .v (.int .i64 s), .v (.bool b)] ?_)
  intro z hz
  simp only [List.mem_cons, List.not_mem_nil, or_false] at hz
  rcases hz with rfl | rfl | rfl | rfl
  · exact ⟨_, rfl, plain_int _ _⟩
  · exact ⟨_, rfl, plain_int _ _⟩
  · exact ⟨_, rfl, plain_int _ _⟩
  · exact ⟨_, rfl, plain_bool _⟩
theorem gO_ar0 (c i s : Int) (b : Bool) (H : Hp) : GivesO (arA c i s b []) (.agg [.v (.int .i64 c), .v (.int .i64 i), .v (.int .i64 s), .v (.bool b), .v (.slice none 0 0)]) H := gO_ar RAcc.nil
theorem ok_CloneR : fnOk Tryz.prog cfg0 52 Tryz.f52 = true := by kernel_rfl
theorem cr_CloneR (H : Hp) (x : AV) (acc : List RecordM) (hr : RAcc H x 3 (acc.map encRecord).flatten acc.length) (hx0 : acc = [] → x = .v (.slice none 0 0)) (hl : acc.length ≤ 100) : ∃ y H3, call Tryz.prog cfg0 0 52 [x] H = some (y, H3) ∧ RAcc H3 y 3 (acc.map encRecord).flatten acc.length ∧ Ext H H3 ∧ ∀ b, b < H.g → Off b y := by
  have key : ∃ r, body Tryz.prog cfg0 52 Tryz.f52 [x] H = some r ∧ (RAcc r.2 r.1 3 (acc.map encRecord).flatten acc.length ∧ Ext H r.2 ∧ ∀ b, b < H.g → Off b r.1) := by
    refine body_wp (rs := [.tmp 2]) rfl rfl (R := fun y H3 => RAcc H3 y 3 (acc.map encRecord).flatten acc.length ∧ Ext H H3 ∧ ∀ b, b < H.g → Off b y) ?_
    have hp0 : ∀ b, cfg0.pol 52 b = 0 := fun b => rfl
    by_cases ha : acc = []
    · have hx := hx0 ha
      subst hx ha
      (have hF := hp0; have hc := trivial; repeat' (first | refine wK ?_ | refine wX ?_ | refine rR ?_ | refine rB ?_ ?_ <;> intro ht <;> try simp only [bbs] at ht | refine rG ?_ ?_ <;> intro hc | refine rZ ?_ | refine wQ ?_))
      all_goals try exact False.elim kk
      all_goals exact ⟨RAcc.nil, Ext.refl _, fun b _ => off_nil⟩
    · have hne : acc.length ≠ 0 := fun e => ha (List.length_eq_zero_iff.1 e)
      obtain ⟨bx, hbx, rfl, hbc⟩ := RAcc.slE hr hne
      have hnn : (acc.length = 0) = False := eq_false hne
      have hfl : (acc.map encRecord).flatten.length = acc.length * 3 := hr.1
      (have hF := an hp0 <| hnn; have hc := trivial; repeat' ((fail_if_success (first | refine wAt 3 ?_ | refine wAtL 3 ?_)); first | refine wK ?_ | refine wX ?_ | refine rR ?_ | refine rB ?_ ?_ <;> intro ht <;> try simp only [bbs] at ht | refine rG ?_ ?_ <;> intro hc | refine rZ ?_ | refine wQ ?_))
      all_goals try exact False.elim kk
      refine wAt 3 ?_
      have hlit : ∀ K : Hp, litO K 0 0 (some ([], 3)) = some (.lst true [], K) := fun _ => rfl
      have hF := an hp0 <| hlit; have hc := trivial; (try refine wX ?_); refine rN (fun xx hx => ?_); generalize hq : aappend Tryz.prog _ _ _ _ = q at hx
      obtain ⟨x', H', rfl, hacc', hg', hk2, ho2⟩ := app_rows hq el39 zero86 by86 int39 (sz := 3) rfl (by omega) (RAcc.lst (H := H)) (m := acc.length) rfl (show afirst H 3 acc.length (.sl bx 3 0 acc.length) = some (acc.map encRecord).flatten by
        simp only [afirst, true_and, Nat.le_refl, if_true, hbc, Option.bind_some, Nat.zero_add, hfl, List.drop_zero]
        rw [← hfl, List.take_length]) hfl (by omega) (by omega)
      (subst hx; have hF := hp0; have hc := trivial; repeat' (first | refine rR ?_ | refine rG ?_ ?_ <;> intro hc | refine rZ ?_ | fail))
      (have hF := hp0; have hc := trivial; repeat' (first | refine wK ?_ | refine wX ?_ | refine rR ?_ | refine rB ?_ ?_ <;> intro ht <;> try simp only [bbs] at ht | refine rG ?_ ?_ <;> intro hc | refine rZ ?_ | refine wQ ?_))
      rw [List.nil_append, Nat.zero_add] at hacc'
      exact ⟨hacc', ⟨hg', fun b hb => hk2 b hb off_lst⟩, fun b hb => ho2 b hb off_lst⟩
  obtain ⟨⟨y, H3⟩, h1, h2⟩ := key
  exact ⟨y, H3, by rw [call_raw Tryz.prog cfg0 Tryz.func52 rfl ok_CloneR rfl rfl, h1], h2⟩
theorem bdrop {l : List Int} (h : Eng.Bytes l) (n : Nat) : Eng.Bytes (l.drop n) := fun z hz => h z (List.mem_of_mem_drop hz)
theorem racc_off {H : Hp} {x : AV} {sz n : Nat} {cs : List AV} (h : RAcc H x sz cs n) {b : Nat} (hb : H.g ≤ b) : Off b x := by
  rcases h.2 with ⟨-, rfl | rfl⟩ | ⟨b', hb', rfl, -⟩
  · exact off_lst
  · exact off_nil
  · intro sz' o n' e; simp at e; omega
def aRo (l : List Int) (o : Option (List RecordM)) : AV := match o with
  | none => arA 5 0 0 false []
  | some rs => arA 0 (num2n l 0) (num1 l 3) (ctA l) rs
theorem ok_iReadAnswer : fnOk Tryz.prog cfg0 15 Tryz.f15 = true := by kernel_rfl
theorem pq_iReadAnswer (l : List Int) (hb : Eng.Bytes l) (hl : l.length ≤ 1048576) : pure Tryz.prog cfg0 15 Tryz.f15 [bytesL l] = some (raX l, true) ∧ owned Tryz.prog cfg0 15 Tryz.f15 [bytesL l] = some (raX l) := by
  refine both_wp (rs := [.cell 2 41]) rfl rfl ?_
  have hp0 : ∀ b, cfg0.pol 15 b = 0 := fun b => rfl
  by_cases hsz : 12 ≤ l.length ∧ l.length ≤ 300
  rotate_left
  · have hin : inB (l.length : Int) 12 300 = false := inB_f.2 (by omega)
    rw [show raX l = arA 2 0 0 false [] from if_neg hsz]
    (have hF := an hp0 <| an c_iin <| hin; have hc := trivial; repeat' (first | refine wK ?_ | refine wX ?_ | refine rR ?_ | refine rB ?_ ?_ <;> intro ht <;> try simp only [bbs] at ht | refine rG ?_ ?_ <;> intro hc | refine rZ ?_ | refine wQ ?_))
    all_goals try exact False.elim kk
    all_goals exact gO_ar0 _ _ _ _ _
  have hin : inB (l.length : Int) 12 300 = true := inB_t.2 (by omega)
  have a3 := at3 hb 3 (by omega)
  have a2 := at3 hb 2 (by omega)
  have b3 := num1_b hb 3
  have w3 : IntKind.wrap .i64 (num1 l 3) = num1 l 3 := wrap_i64 (by omega) (by omega)
  have hct : decide (num1 l 2 = 134) = ctA l := rfl
  have hnum := c_inumber l 0 2 0 2 rfl rfl hb (by omega) (by omega) hl (by omega)
  rw [show (readWord l 0 2).2 = num2n l 0 from rfl] at hnum
  obtain ⟨a, b, h2t⟩ := take_two (l := l) (by omega)
  have hsl2 : (2 ≤ l.length) = True := eq_true (by omega)
  have hb2 := bytes_two hb h2t
  by_cases h1 : num1 l 3 = 1
  · have hT : (num1 l 3 = 1) = True := eq_true h1
    have hmd : ∀ H, call Tryz.prog cfg0 0 42 [bytesL [a, b], .v (.int .i64 1), .v (.slice none 0 0), .v (.slice none 0 0), .v (.int .i64 0)] H = some (bytesL (ansB [a, b] 1 false [] []), H) := fun H =>
      call_dz Tryz.func42 rfl ok_imade rfl (Dzs.cons (Fz.dz (bytesL_fz 10 _)) (Dzs.cons (Fz.dz (Fz.int _ _ _)) (Dzs.cons dz_nil (Dzs.cons ⟨fun _ => rfl, rfl⟩ (Dzs.cons (Fz.dz (Fz.int _ _ _)) Dzs.nil))))) (p_imade [a, b] [] 1 [] 0 (by simp) (by simp) (by simp) (by simp) (by omega) (by simp)) H
    have heq := c_bEqual (ansB [a, b] 1 false [] []) l (ansB_bytes hb2 (fun z hz => by simp at hz) (by omega) (by simp)) hb
    by_cases he : ansB [a, b] 1 false [] [] = l
    · rw [ra_some hsz (show aR l = some [] by unfold aR chk; rw [if_pos h1, h2t, if_pos he])]
      rw [decide_eq_true he] at heq
      (have hF := an hp0 <| an c_iin <| an hin <| an a3 <| an a2 <| an w3 <| an hct <| an hnum <| an hT <| an hsl2 <| an Nat.zero_le <| an Nat.sub_zero <| an h2t <| an (aconv_int u5 u2) <| an hmd <| heq; have hc := trivial; repeat' (first | refine wK ?_ | refine wX ?_ | refine rR ?_ | refine rB ?_ ?_ <;> intro ht <;> try simp only [bbs] at ht | refine rG ?_ ?_ <;> intro hc | refine rZ ?_ | refine wQ ?_))
      all_goals try exact False.elim kk
      all_goals exact gO_ar0 _ _ _ _ _
    · rw [ra_none hsz (by unfold aR chk; rw [if_pos h1, h2t, if_neg he])]
      rw [decide_eq_false he] at heq
      (have hF := an hp0 <| an c_iin <| an hin <| an a3 <| an a2 <| an w3 <| an hct <| an hnum <| an hT <| an hsl2 <| an Nat.zero_le <| an Nat.sub_zero <| an h2t <| an (aconv_int u5 u2) <| an hmd <| heq; have hc := trivial; repeat' (first | refine wK ?_ | refine wX ?_ | refine rR ?_ | refine rB ?_ ?_ <;> intro ht <;> try simp only [bbs] at ht | refine rG ?_ ?_ <;> intro hc | refine rZ ?_ | refine wQ ?_))
      all_goals try exact False.elim kk
      all_goals exact gO_ar0 _ _ _ _ _
  have hT : (num1 l 3 = 1) = False := eq_false h1
  have hT' : ((1 : Int) = num1 l 3) = False := eq_false (fun e => h1 e.symm)
  have hrn := c_iReadName l hb hl
  unfold rnR at hrn
  by_cases hn : nmO l
  rotate_left
  · rw [ra_none hsz (by unfold aR; rw [if_neg h1, if_neg hn])]
    by_cases h12 : 12 < l.length
    · rw [if_pos h12] at hrn
      by_cases hz : (nmR l 12 12 0 [] 0).1 = 0
      · have hend : ¬ (nmR l 12 12 0 [] 0).2.2 + 4 ≤ l.length := fun e => hn ⟨hz, e⟩
        obtain ⟨hk, hx0, hx1⟩ := nm_ok l 12 12 0 [] 0 ⟨by simp, by simp⟩ (by simp) hz
        have w4 : IntKind.wrap .i64 ((nmR l 12 12 0 [] 0).2.2 + 4) = (nmR l 12 12 0 [] 0).2.2 + 4 := wrap_i64 (by omega) (by omega)
        have hendI : (l.length : Int) < (nmR l 12 12 0 [] 0).2.2 + 4 := by omega
        rw [if_pos hz] at hrn
        have tx := tx_ok (nmR l 12 12 0 [] 0).2.1
        generalize (nmR l 12 12 0 [] 0).2.2 = nx at *
        generalize (nmR l 12 12 0 [] 0).2.1 = ls at *
        (have hF := an hp0 <| an c_iin <| an hin <| an a3 <| an a2 <| an w3 <| an hct <| an hnum <| an hT <| an hsl2 <| an Nat.zero_le <| an Nat.sub_zero <| an h2t <| an (aconv_int u5 u2) <| an hrn <| an w4 <| an hendI <| an tx.1 <| tx.2; have hc := trivial; repeat' (first | refine wK ?_ | refine wX ?_ | refine rR ?_ | refine rB ?_ ?_ <;> intro ht <;> try simp only [bbs] at ht | refine rG ?_ ?_ <;> intro hc | refine rZ ?_ | refine wQ ?_))
        all_goals try exact False.elim kk
        all_goals exact gO_ar0 _ _ _ _ _
      · rw [if_neg hz] at hrn
        have w04 : IntKind.wrap .i64 (0 + 4) = 4 := by decide
        generalize (nmR l 12 12 0 [] 0).1 = cd at *
        have hc0 : (cd = 0) = False := eq_false hz
        (have hF := an hp0 <| an c_iin <| an hin <| an a3 <| an a2 <| an w3 <| an hct <| an hnum <| an hT <| an hsl2 <| an Nat.zero_le <| an Nat.sub_zero <| an h2t <| an (aconv_int u5 u2) <| an hrn <| an w04 <| hc0; have hc := trivial; repeat' (first | refine wK ?_ | refine wX ?_ | refine rR ?_ | refine rB ?_ ?_ <;> intro ht <;> try simp only [bbs] at ht | refine rG ?_ ?_ <;> intro hc | refine rZ ?_ | refine wQ ?_))
        all_goals try exact False.elim kk
        all_goals exact gO_ar0 _ _ _ _ _
    · rw [if_neg h12] at hrn
      have w04 : IntKind.wrap .i64 (0 + 4) = 4 := by decide
      (have hF := an hp0 <| an c_iin <| an hin <| an a3 <| an a2 <| an w3 <| an hct <| an hnum <| an hT <| an hsl2 <| an Nat.zero_le <| an Nat.sub_zero <| an h2t <| an (aconv_int u5 u2) <| an hrn <| w04; have hc := trivial; repeat' (first | refine wK ?_ | refine wX ?_ | refine rR ?_ | refine rB ?_ ?_ <;> intro ht <;> try simp only [bbs] at ht | refine rG ?_ ?_ <;> intro hc | refine rZ ?_ | refine wQ ?_))
      all_goals try exact False.elim kk
      all_goals exact gO_ar0 _ _ _ _ _
  obtain ⟨q1, q2, q3⟩ := quA_len hn
  obtain ⟨hz, hend⟩ := id hn
  obtain ⟨hk, hx0, hx1⟩ := nm_ok l 12 12 0 [] 0 ⟨by simp, by simp⟩ (by simp) hz
  have hge := (nm_ge l 12 12 0 [] 0 hz).2 rfl
  rw [if_pos (by omega), if_pos hz] at hrn
  have tx := tx_ok (nmR l 12 12 0 [] 0).2.1
  have w4 : IntKind.wrap .i64 ((nmR l 12 12 0 [] 0).2.2 + 4) = ((endA l : Nat) : Int) := by
    rw [wrap_i64 (by omega) (by omega)]; unfold endA; omega
  have hendI : ¬ (l.length : Int) < ((endA l : Nat) : Int) := by omega
  have hsl : (12 ≤ endA l ∧ endA l ≤ l.length) = True := eq_true ⟨q2, q3⟩
  have hqu : (l.drop 12).take (endA l - 12) = quA l := rfl
  have hen : 16 < endA l := by unfold endA; omega
  have hqb : Eng.Bytes (qyA l) := by
    unfold qyA
    refine bytes_app (bytes_app (fun z hz => hb z (List.mem_of_mem_take hz)) (fun z hz => ?_)) (fun z hz => hb z (List.mem_of_mem_drop (List.mem_of_mem_take hz)))
    simp only [List.mem_cons, List.not_mem_nil, or_false] at hz; omega
  have hqw : Eng.Bytes (quA l) := fun z hz => hb z (List.mem_of_mem_drop (List.mem_of_mem_take hz))
  have hqy : [a, b] ++ ([1, 0] ++ ((wordL 1 2 ++ (wordL 0 2 ++ (wordL 0 2 ++ wordL 0 2))) ++ quA l)) = qyA l := by
    unfold qyA; rw [h2t, show wordL 1 2 = [0, 1] by decide, w2_0]; rfl
  have hql : (qyA l).length = endA l := by rw [← hqy]; simp [wordL_len]; omega
  have hcat := cat4 (x := bytesL [a, b]) (y := .lst true [[.v (.int .u8 1)], [.v (.int .u8 0)]]) (z := bytesL (wordL 1 2 ++ (wordL 0 2 ++ (wordL 0 2 ++ wordL 0 2)))) (w := bytesL (quA l)) dzB dz2 dzB dzB (by simp [wordL_len]; omega)
  rw [hqy] at hcat
  have hsh := sh4 1 0 0 0 (by omega) (by omega) (by omega) (by omega)
  have hso := c_istatusOf (qyA l) hqb (by omega)
  cases hqf : qF (qyA l) with
  | none =>
    rw [ra_none hsz (by unfold aR; rw [if_neg h1, if_pos hn, hqf])]
    rw [show soR (qyA l) = .tup [.v (.int .i64 1), bytesL [], .agg [.v (.int .i64 0), textsL [], .v (.int .i64 0)]] by unfold soR; rw [hqf]] at hso
    have tx0 := tx_ok []
    generalize (nmR l 12 12 0 [] 0).2.2 = nx at *
    generalize (nmR l 12 12 0 [] 0).2.1 = ls at *
    (have hF := an hp0 <| an c_iin <| an hin <| an a3 <| an a2 <| an w3 <| an hct <| an hnum <| an hT <| an hsl2 <| an Nat.zero_le <| an Nat.sub_zero <| an h2t <| an (aconv_int u5 u2) <| an hrn <| an w4 <| an hendI <| an tx.1 <| an tx.2 <| an hsl <| an hqu <| an hsh <| an hcat <| an hso <| an hT' <| an tx0.1 <| tx0.2; have hc := trivial; repeat' (first | refine wK ?_ | refine wX ?_ | refine rR ?_ | refine rB ?_ ?_ <;> intro ht <;> try simp only [bbs] at ht | refine rG ?_ ?_ <;> intro hc | refine rZ ?_ | refine wQ ?_))
    all_goals try exact False.elim kk
    all_goals exact gO_ar0 _ _ _ _ _
  | some z =>
    obtain ⟨i', ls', t'⟩ := z
    obtain ⟨hk', hi', htt', -, -⟩ := qF_ok hqb hqf
    have hd12 : (qyA l).drop 12 = quA l := by unfold qyA; rw [h2t]; rfl
    rw [show soR (qyA l) = .tup [.v (.int .i64 (stF ls' t')), bytesL (quA l), .agg [.v (.int .i64 i'), textsL ls', .v (.int .i64 t')]] by unfold soR; rw [hqf, ← hd12]] at hso
    have tx' := tx_ok ls'
    by_cases hs : stF ls' t' = num1 l 3
    rotate_left
    · rw [ra_none hsz (by unfold aR; rw [if_neg h1, if_pos hn, hqf]; simp only; rw [if_neg hs])]
      have hsF : (stF ls' t' = num1 l 3) = False := eq_false hs
      generalize (nmR l 12 12 0 [] 0).2.2 = nx at *
      generalize (nmR l 12 12 0 [] 0).2.1 = ls at *
      (have hF := an hp0 <| an c_iin <| an hin <| an a3 <| an a2 <| an w3 <| an hct <| an hnum <| an hT <| an hsl2 <| an Nat.zero_le <| an Nat.sub_zero <| an h2t <| an (aconv_int u5 u2) <| an hrn <| an w4 <| an hendI <| an tx.1 <| an tx.2 <| an hsl <| an hqu <| an hsh <| an hcat <| an hso <| an hsF <| an tx'.1 <| tx'.2; have hc := trivial; repeat' (first | refine wK ?_ | refine wX ?_ | refine rR ?_ | refine rB ?_ ?_ <;> intro ht <;> try simp only [bbs] at ht | refine rG ?_ ?_ <;> intro hc | refine rZ ?_ | refine wQ ?_))
      all_goals try exact False.elim kk
      all_goals exact gO_ar0 _ _ _ _ _
    have htb : num1 l 3 = 0 → typB t' = true := by
      intro h0
      rw [h0] at hs
      unfold stF at hs
      split at hs
      · omega
      · split at hs
        · assumption
        · omega
    have hraq : raX l = aRo l (match (if num1 l 3 = 0 then rdR l t' 5 (endA l) [] else some []) with
      | none => none
      | some rs => arE l t' (num1 l 3) rs) := by
      unfold raX aR
      rw [if_pos hsz, if_neg h1, if_pos hn, hqf]
      simp only
      rw [hs, if_pos rfl]
      cases (if num1 l 3 = 0 then rdR l t' 5 (endA l) [] else some []) with
      | none => rfl
      | some rs =>
        simp only
        unfold aRo
        cases arE l t' (num1 l 3) rs <;> rfl
    rw [hs] at hso
    have hsee : (endA l ≤ l.length) = True := eq_true q3
    generalize (nmR l 12 12 0 [] 0).2.2 = nx at *
    generalize (nmR l 12 12 0 [] 0).2.1 = ls at *
    (have hF := an hp0 <| an c_iin <| an hin <| an a3 <| an a2 <| an w3 <| an hct <| an hnum <| an hT <| an hsl2 <| an Nat.zero_le <| an Nat.sub_zero <| an h2t <| an (aconv_int u5 u2) <| an hrn <| an w4 <| an hendI <| an tx.1 <| an tx.2 <| an hsl <| an hqu <| an hsh <| an hcat <| an hso <| an tx'.1 <| tx'.2; have hc := trivial; repeat' ((fail_if_success (first | refine wAt 18 ?_ | refine wAtL 18 ?_)); first | refine wK ?_ | refine wX ?_ | refine rR ?_ | refine rB ?_ ?_ <;> intro ht <;> try simp only [bbs] at ht | refine rG ?_ ?_ <;> intro hc | refine rZ ?_ | refine wQ ?_))
    all_goals try exact False.elim kk
    refine wAt 18 ?_
    refine wSt (fun e2 H2 => e2 0 = bytesL l ∧ e2 2 = .ptr 0 0 ∧ e2 3 = .ptr 1 0 ∧ e2 4 = .ptr 2 0 ∧ e2 6 = .v (.int .i64 (endA l : Nat)) ∧ e2 8 = .v (.int .i64 (num1 l 3)) ∧ e2 9 = bytesL (quA l) ∧ e2 10 = .ptr 4 0 ∧ H2.h 0 = some [.v (.int .i64 0), .v (.int .i64 0), .v (.int .i64 0), .v (.bool false), .v (.slice none 0 0)] ∧ H2.h 1 = some [.v (.int .i64 5), .v (.int .i64 0), .v (.int .i64 0), .v (.bool false), .v (.slice none 0 0)] ∧ H2.h 2 = some [.v (.int .i64 0), .v (.int .i64 (num2n l 0)), .v (.int .i64 (num1 l 3)), .v (.bool (ctA l)), .v (.slice none 0 0)] ∧ H2.h 4 = some [.v (.int .i64 i'), textsL ls', .v (.int .i64 t')] ∧ 4 < H2.g) ⟨rfl, rfl, rfl, rfl, rfl, rfl, rfl, rfl, rfl, rfl, rfl, rfl, (by show (4 : Nat) < 5; omega)⟩ ?_
    clear hrn hcat hso hsh hnum hin hT hT' hqf tx tx' hk hx0 hx1 hge w4 hendI hz hend hql hqy
    rintro e2 H2 ⟨j0, j2, j3, j4, j6, j8, j9, j10, hh0, hh1, hh2, hh4, hg2⟩
    (have hF := an hp0 <| an j0 <| an j6 <| hsee; have hc := trivial; repeat' (first | refine wK ?_ | refine wX ?_ | refine rR ?_ | refine rB ?_ ?_ <;> intro ht <;> try simp only [bbs] at ht | refine rG ?_ ?_ <;> intro hc | refine rZ ?_ | refine wQ ?_))
    refine wLoop (fun k s => ∃ (j : Nat) (pp : Nat) (acc : List RecordM) (x : AV) (f : Nat), j + k = 5 ∧ s.1 0 = bytesL l ∧ s.1 2 = .ptr 0 0 ∧ s.1 3 = .ptr 1 0 ∧ s.1 4 = .ptr 2 0 ∧ s.1 8 = .v (.int .i64 (num1 l 3)) ∧ s.1 9 = bytesL (quA l) ∧ s.1 10 = .ptr 4 0 ∧ s.1 11 = bytesL (l.drop pp) ∧ (s.2.h 0 = some [.v (.int .i64 0), .v (.int .i64 0), .v (.int .i64 0), .v (.bool false), .v (.slice none 0 0)]) ∧ (s.2.h 1 = some [.v (.int .i64 5), .v (.int .i64 0), .v (.int .i64 0), .v (.bool false), .v (.slice none 0 0)]) ∧ (s.2.h 2 = some [.v (.int .i64 0), .v (.int .i64 (num2n l 0)), .v (.int .i64 (num1 l 3)), .v (.bool (ctA l)), x]) ∧ (s.2.h 4 = some [.v (.int .i64 i'), textsL ls', .v (.int .i64 t')]) ∧ (RAcc s.2 x 3 (acc.map encRecord).flatten acc.length) ∧ (4 < s.2.g) ∧ (∀ b, b < 5 → Off b x) ∧ (pp ≤ l.length) ∧ (num1 l 3 = 0 → rdR l t' 5 (endA l) [] = rdR l t' f pp acc) ∧ (¬ num1 l 3 = 0 → acc = []) ∧ (f + j = 5 ∧ acc.length = j) ∧ ((acc.length : Int) ≤ lastN acc + 1 ∧ lastN acc ≤ 3) ∧ (∀ r ∈ acc, recOk r) ∧ (acc = [] → x = .v (.slice none 0 0))) (fun k s hI => ?_) (5) _ ?_
    rotate_left
    · refine ⟨0, endA l, [], .v (.slice none 0 0), 5, by omega, j0, j2, j3, j4, j8, j9, j10, rfl, hh0, hh1, hh2, hh4, RAcc.nil, hg2, fun b _ => off_nil, q3, fun _ => rfl, fun _ => rfl, by simp, by simp [lastN], by simp, fun _ => rfl⟩
    · obtain ⟨e, H⟩ := s
      obtain ⟨j, pp, acc, x, f, hj, h0, h2, h3, h4, h8, h9, h10, h11, b0, b1, b2, b4, hr, hgg, hoff, hpl, hfu, hac0, hfa, hla, hro, hxn⟩ := hI
      simp only at h0 h2 h3 h4 h8 h9 h10 h11 b0 b1 b2 b4 hr hgg hoff hpl hfu hac0 hfa hla hro hxn
      have g0 : (0 = H.g) = False := eq_false (by omega)
      have g1 : (1 = H.g) = False := eq_false (by omega)
      have g2 : (2 = H.g) = False := eq_false (by omega)
      have g4 : (4 = H.g) = False := eq_false (by omega)
      obtain ⟨f, rfl⟩ : ∃ f', f = f' + 1 := ⟨f - 1, by omega⟩
      have hlen := hr.len
      by_cases hgo : pp < l.length ∧ num1 l 3 = 0
      · obtain ⟨hlt, hs0⟩ := hgo
        have hty := htb hs0
        have hD0 : ((0 : Int) < ((l.drop pp).length : Nat)) = True := eq_true (by rw [List.length_drop]; omega)
        have hsT : (num1 l 3 = 0) = True := eq_true hs0
        rw [if_pos hs0, hfu hs0, rdR, if_neg (show ¬ l.length ≤ pp by omega)] at hraq
        have n15 := c_inumber (l.drop pp) 15 1 15 1 rfl rfl (bdrop hb pp) (by omega) (by omega) (by rw [List.length_drop]; omega) (by omega)
        have n16 := c_inumber (l.drop pp) 16 2 16 2 rfl rfl (bdrop hb pp) (by omega) (by omega) (by rw [List.length_drop]; omega) (by omega)
        have n20 := c_inumber (l.drop pp) 20 1 20 1 rfl rfl (bdrop hb pp) (by omega) (by omega) (by rw [List.length_drop]; omega) (by omega)
        rw [rw_drop l pp 15 1 hpl, show (readWord l (pp + 15) 1).2 = num1 l (pp + 15) from rfl] at n15
        rw [rw_drop l pp 16 2 hpl, show (readWord l (pp + 16) 2).2 = num2n l (pp + 16) from rfl] at n16
        rw [rw_drop l pp 20 1 hpl, show (readWord l (pp + 20) 1).2 = num1 l (pp + 20) from rfl] at n20
        have v20 := num1_b hb (pp + 20)
        have w20 : IntKind.wrap .i64 (num1 l (pp + 20) - 48) = num1 l (pp + 20) - 48 := wrap_i64 (by omega) (by omega)
        have hTy : (recAt l pp t').Type_ = t' := recAt_ty
        (have hF := an hp0 <| an h8 <| an h10 <| an h11 <| an hD0 <| an hsT <| an b4 <| an g0 <| an g1 <| an g2 <| g4; have hc := trivial; repeat' ((fail_if_success (first | refine wAt 21 ?_ | refine wAtL 21 ?_)); first | refine wK ?_ | refine wX ?_ | refine rR ?_ | refine rB ?_ ?_ <;> intro ht <;> try simp only [bbs] at ht | refine rG ?_ ?_ <;> intro hc | refine rZ ?_ | refine wQ ?_))
        all_goals try exact False.elim kk
        refine wMid (fun s => s.1 0 = bytesL l ∧ s.1 2 = .ptr 0 0 ∧ s.1 3 = .ptr 1 0 ∧ s.1 4 = .ptr 2 0 ∧ s.1 8 = .v (.int .i64 (num1 l 3)) ∧ s.1 9 = bytesL (quA l) ∧ s.1 10 = .ptr 4 0 ∧ s.1 11 = bytesL (l.drop pp) ∧ s.1 12 = .ptr H.g 0 ∧ s.2.h H.g = some [.v (.int .i64 t'), .v (.int .i64 (recAt l pp t').Node), .v (.int .i64 (recAt l pp t').Port)] ∧ Ext H s.2 ∧ H.g < s.2.g) ?_ ?_
        · by_cases ht1 : t' = 1
          · have hra : recAt l pp t' = ⟨1, num1 l (pp + 15), 0⟩ := if_pos ht1
            have htT : (t' = 1) = True := eq_true ht1
            rw [hra]
            (have hF := an hp0 <| an h10 <| an h11 <| an b4 <| an g0 <| an g1 <| an g2 <| an g4 <| an htT <| n15; have hc := trivial; repeat' (first | refine wK ?_ | refine wX ?_ | refine rR ?_ | refine rB ?_ ?_ <;> intro ht <;> try simp only [bbs] at ht | refine rG ?_ ?_ <;> intro hc | refine rZ ?_ | refine wQ ?_))
            all_goals try exact False.elim kk
            show (_ = _) ∧ (_ = _) ∧ (_ = _) ∧ (_ = _) ∧ (_ = _) ∧ (_ = _) ∧ (_ = _) ∧ (_ = _) ∧ (_ = _) ∧ (_ = _) ∧ Ext _ _ ∧ _
            simp only [upd_eq, put, Nat.reduceEqDiff, if_false, if_true]
            exact ⟨h0, h2, h3, h4, h8, h9, h10, h11, trivial, by simp [Hp.set_h], ((((Ext.refl H).new _).set (Nat.le_refl _) _).set (Nat.le_refl _) _), by simp⟩
          · have hra : recAt l pp t' = ⟨t', num1 l (pp + 20) - 48, num2n l (pp + 16)⟩ := if_neg ht1
            have htT : (t' = 1) = False := eq_false ht1
            rw [hra]
            (have hF := an hp0 <| an h10 <| an h11 <| an b4 <| an g0 <| an g1 <| an g2 <| an g4 <| an htT <| an n16 <| an n20 <| w20; have hc := trivial; repeat' (first | refine wK ?_ | refine wX ?_ | refine rR ?_ | refine rB ?_ ?_ <;> intro ht <;> try simp only [bbs] at ht | refine rG ?_ ?_ <;> intro hc | refine rZ ?_ | refine wQ ?_))
            all_goals try exact False.elim kk
            show (_ = _) ∧ (_ = _) ∧ (_ = _) ∧ (_ = _) ∧ (_ = _) ∧ (_ = _) ∧ (_ = _) ∧ (_ = _) ∧ (_ = _) ∧ (_ = _) ∧ Ext _ _ ∧ _
            simp only [upd_eq, put, Nat.reduceEqDiff, if_false, if_true]
            exact ⟨h0, h2, h3, h4, h8, h9, h10, h11, trivial, by simp [Hp.set_h], (((((Ext.refl H).new _).set (Nat.le_refl _) _).set (Nat.le_refl _) _).set (Nat.le_refl _) _), by simp⟩
        clear h0 h2 h3 h4 h8 h9 h10 h11 n15 n16 n20
        rintro ⟨e2, H2⟩ ⟨h0, h2, h3, h4, h8, h9, h10, h11, h12, hb12, hex, hgl⟩
        simp only at h0 h2 h3 h4 h8 h9 h10 h11 h12 hb12 hex hgl
        show Wp _ _ _ _ _ _
        have c0 := hex.at (by omega) b0
        have c1 := hex.at (by omega) b1
        have c2 := hex.at (by omega) b2
        have c4 := hex.at (by omega) b4
        have hr2 := hr.ext hex
        have hlen2 := hr2.len
        have hnd := c_iisNode (recAt l pp t').Node
        cases hN : inB (recAt l pp t').Node 0 3 with
        | false =>
          rw [hN] at hnd
          have hno : ¬ (typB t' = true ∧ okAt l pp t' = true ∧ lastN acc < (recAt l pp t').Node) := fun z => by have := z.2.1; unfold okAt at this; rw [hN] at this; simp at this
          rw [if_neg hno] at hraq
          rw [show raX l = arA 5 0 0 false [] from hraq]
          (have hF := an hp0 <| an h2 <| an h3 <| an h4 <| an h12 <| an hb12 <| an c0 <| an c1 <| an c2 <| an hlen2 <| hnd; have hc := trivial; repeat' (first | refine wK ?_ | refine wX ?_ | refine rR ?_ | refine rB ?_ ?_ <;> intro ht <;> try simp only [bbs] at ht | refine rG ?_ ?_ <;> intro hc | refine rZ ?_ | refine wQ ?_))
          all_goals try exact False.elim kk
          all_goals exact gO_ar0 _ _ _ _ _
        | true =>
          rw [hN] at hnd
          have hrok := recAt_ok hb hty hN
          have hno := inB_t.1 hN
          have henc := c_iRecord_encoded (recAt l pp t') hrok
          rw [hTy] at henc
          have hpx := c_bHasPrefix (l.drop pp) (recB (recAt l pp t')) (bdrop hb pp) (recB_bytes hrok)
          by_cases hord : lastN acc < (recAt l pp t').Node
          rotate_left
          · rw [if_neg (fun z => hord z.2.2)] at hraq
            rw [show raX l = arA 5 0 0 false [] from hraq]
            rcases List.eq_nil_or_concat acc with hr0 | ⟨acc0, r0, hr0⟩
            · exfalso; rw [hr0] at hord; simp [lastN] at hord; omega
            rw [List.concat_eq_append] at hr0
            have hln : lastN acc = r0.Node := by rw [hr0, lastN_snoc]
            have hal : acc.length = acc0.length + 1 := by rw [hr0]; simp
            obtain ⟨bx, hbx, hxe, hbc⟩ := RAcc.slE hr2 (by omega)
            have hcell := rec_cell hr0
            have wn : IntKind.wrap .i64 (((acc.length : Nat) : Int) - 1) = ((acc0.length : Nat) : Int) := by rw [wrap_i64 (by omega) (by omega)]; omega
            have hn0 : (0 : Int) ≤ ((acc0.length : Nat) : Int) := by omega
            have hge : (recAt l pp t').Node ≤ r0.Node := by omega
            have hlt2 : (acc0.length < acc.length) = True := eq_true (by omega)
            subst hxe
            (have hF := an hp0 <| an h2 <| an h3 <| an h4 <| an h12 <| an hb12 <| an c0 <| an c1 <| an c2 <| an hbc <| an hnd <| an wn <| an hn0 <| an hlt2 <| an hcell <| an hge <| @Option.isSome_some.{0}; have hc := trivial; repeat' (first | refine wK ?_ | refine wX ?_ | refine rR ?_ | refine rB ?_ ?_ <;> intro ht <;> try simp only [bbs] at ht | refine rG ?_ ?_ <;> intro hc | refine rZ ?_ | refine wQ ?_))
            all_goals try exact False.elim kk
            all_goals exact gO_ar0 _ _ _ _ _
          cases hpb : preB (l.drop pp) (recB (recAt l pp t')) with
          | false =>
            rw [hpb] at hpx
            have hno2 : ¬ (typB t' = true ∧ okAt l pp t' = true ∧ lastN acc < (recAt l pp t').Node) := fun z => by have := z.2.1; unfold okAt at this; rw [hpb] at this; simp at this
            rw [if_neg hno2] at hraq
            rw [show raX l = arA 5 0 0 false [] from hraq]
            rcases List.eq_nil_or_concat acc with hr0 | ⟨acc0, r0, hr0⟩
            · have wn : IntKind.wrap .i64 (((acc.length : Nat) : Int) - 1) = -1 := by rw [hr0]; decide
              have hm1 : ((0 : Int) ≤ -1) = False := by decide
              (have hF := an hp0 <| an h2 <| an h3 <| an h4 <| an h11 <| an h12 <| an hb12 <| an c0 <| an c1 <| an c2 <| an hlen2 <| an hnd <| an wn <| an hm1 <| an henc <| hpx; have hc := trivial; repeat' (first | refine wK ?_ | refine wX ?_ | refine rR ?_ | refine rB ?_ ?_ <;> intro ht <;> try simp only [bbs] at ht | refine rG ?_ ?_ <;> intro hc | refine rZ ?_ | refine wQ ?_))
              all_goals try exact False.elim kk
              all_goals exact gO_ar0 _ _ _ _ _
            rw [List.concat_eq_append] at hr0
            have hln : lastN acc = r0.Node := by rw [hr0, lastN_snoc]
            have hal : acc.length = acc0.length + 1 := by rw [hr0]; simp
            obtain ⟨bx, hbx, hxe, hbc⟩ := RAcc.slE hr2 (by omega)
            have hcell := rec_cell hr0
            have wn : IntKind.wrap .i64 (((acc.length : Nat) : Int) - 1) = ((acc0.length : Nat) : Int) := by rw [wrap_i64 (by omega) (by omega)]; omega
            have hn0 : (0 : Int) ≤ ((acc0.length : Nat) : Int) := by omega
            have hge : ¬ (recAt l pp t').Node ≤ r0.Node := by omega
            have hlt2 : (acc0.length < acc.length) = True := eq_true (by omega)
            subst hxe
            (have hF := an hp0 <| an h2 <| an h3 <| an h4 <| an h11 <| an h12 <| an hb12 <| an c0 <| an c1 <| an c2 <| an hbc <| an hnd <| an wn <| an hn0 <| an hlt2 <| an hcell <| an hge <| an henc <| an hpx <| @Option.isSome_some.{0}; have hc := trivial; repeat' (first | refine wK ?_ | refine wX ?_ | refine rR ?_ | refine rB ?_ ?_ <;> intro ht <;> try simp only [bbs] at ht | refine rG ?_ ?_ <;> intro hc | refine rZ ?_ | refine wQ ?_))
            all_goals try exact False.elim kk
            all_goals exact gO_ar0 _ _ _ _ _
          | true =>
            have hoa : okAt l pp t' = true := by unfold okAt; rw [hN, hpb]; rfl
            rw [hpb] at hpx
            rw [if_pos ⟨hty, hoa, hord⟩] at hraq
            have hpr : (recB (recAt l pp t')).length ≤ (l.drop pp).length := by
              have := hpb; unfold preB at this; simp only [Bool.and_eq_true, decide_eq_true_eq] at this; exact this.1
            have hle : ((recB (recAt l pp t')).length ≤ (l.drop pp).length) = True := eq_true hpr
            have hdd : (l.drop pp).drop (recB (recAt l pp t')).length = l.drop (pp + (recB (recAt l pp t')).length) := by rw [List.drop_drop]
            have hcv : ∀ _ : AV, encRecord (recAt l pp t') = [.v (.int .i64 t'), .v (.int .i64 (recAt l pp t').Node), .v (.int .i64 (recAt l pp t').Port)] := fun _ => by unfold encRecord; rw [hTy]
            rcases List.eq_nil_or_concat acc with hr0 | ⟨acc0, r0, hr0⟩
            case' inl =>
              have wn : IntKind.wrap .i64 (((acc.length : Nat) : Int) - 1) = -1 := by rw [hr0]; decide
              have hm1 : ((0 : Int) ≤ -1) = False := by decide
              (have hF := an hp0 <| an h2 <| an h3 <| an h4 <| an h11 <| an h12 <| an hb12 <| an c0 <| an c1 <| an c2 <| an hlen2 <| an hnd <| an wn <| an hm1 <| an henc <| hpx; have hc := trivial; repeat' ((fail_if_success (first | refine wAt 29 ?_ | refine wAtL 29 ?_)); first | refine wK ?_ | refine wX ?_ | refine rR ?_ | refine rB ?_ ?_ <;> intro ht <;> try simp only [bbs] at ht | refine rG ?_ ?_ <;> intro hc | refine rZ ?_ | refine wQ ?_))
              all_goals try exact False.elim kk
            case' inr =>
              rw [List.concat_eq_append] at hr0
              have hln : lastN acc = r0.Node := by rw [hr0, lastN_snoc]
              have hal : acc.length = acc0.length + 1 := by rw [hr0]; simp
              obtain ⟨bx, hbx, hxe, hbc⟩ := RAcc.slE hr2 (by omega)
              have hcell := rec_cell hr0
              have wn : IntKind.wrap .i64 (((acc.length : Nat) : Int) - 1) = ((acc0.length : Nat) : Int) := by rw [wrap_i64 (by omega) (by omega)]; omega
              have hn0 : (0 : Int) ≤ ((acc0.length : Nat) : Int) := by omega
              have hge : ¬ (recAt l pp t').Node ≤ r0.Node := by omega
              have hlt2 : (acc0.length < acc.length) = True := eq_true (by omega)
              subst hxe
              (have hF := an hp0 <| an h2 <| an h3 <| an h4 <| an h11 <| an h12 <| an hb12 <| an c0 <| an c1 <| an c2 <| an hbc <| an hnd <| an wn <| an hn0 <| an hlt2 <| an hcell <| an hge <| an henc <| an hpx <| @Option.isSome_some.{0}; have hc := trivial; repeat' ((fail_if_success (first | refine wAt 29 ?_ | refine wAtL 29 ?_)); first | refine wK ?_ | refine wX ?_ | refine rR ?_ | refine rB ?_ ?_ <;> intro ht <;> try simp only [bbs] at ht | refine rG ?_ ?_ <;> intro hc | refine rZ ?_ | refine wQ ?_))
              all_goals try exact False.elim kk
            all_goals
              refine wAt 29 ?_
              have hS := an h0 <| an h2 <| an h3 <| an h4 <| an h8 <| an h9 <| an h10 <| an h11 <| h12; refine wEnv (fun e2 => e2 0 = bytesL l ∧ e2 2 = .ptr 0 0 ∧ e2 3 = .ptr 1 0 ∧ e2 4 = .ptr 2 0 ∧ e2 8 = .v (.int .i64 (num1 l 3)) ∧ e2 9 = bytesL (quA l) ∧ e2 10 = .ptr 4 0 ∧ e2 11 = bytesL (l.drop pp) ∧ e2 12 = .ptr H.g 0) ⟨sl, sl, sl, sl, sl, sl, sl, sl, sl⟩ (fun e hY => ?_); obtain ⟨h0, h2, h3, h4, h8, h9, h10, h11, h12⟩ := hY
              have hF := an hp0 <| an h4 <| an h12 <| an c2 <| hb12; have hc := trivial; (try refine wX ?_); refine rN (fun xx hx => ?_); generalize hq : aappend Tryz.prog _ _ _ _ = q at hx
              obtain ⟨x', H', rfl, hacc', hg', hk2, ho2⟩ := app_rows hq el39 zero86 by86 int39 (sz := 3) rfl (by omega) hr2 (m := 1) rfl (afirst_one _ _ [.v (.int .i64 t'), .v (.int .i64 (recAt l pp t').Node), .v (.int .i64 (recAt l pp t').Port)]) rfl (by omega) (by omega)
              have hlt5 : ∀ b, b < 5 → b < H2.g := fun b hb => by omega
              have e0 := (hk2 0 (hlt5 0 (by omega)) (hoff 0 (by omega))).trans c0
              have e1 := (hk2 1 (hlt5 1 (by omega)) (hoff 1 (by omega))).trans c1
              have e2' := (hk2 2 (hlt5 2 (by omega)) (hoff 2 (by omega))).trans c2
              have e4 := (hk2 4 (hlt5 4 (by omega)) (hoff 4 (by omega))).trans c4
              have e12 := (hk2 H.g hgl (racc_off hr (Nat.le_refl _))).trans hb12
              have gH2 : (H.g = 2) = False := eq_false (by omega)
              have hx' := hacc'.one
              clear hq
              (subst hx; have hF := an hp0 <| an h4 <| an e2' <| an hx'.1 <| hx'.2; have hc := trivial; repeat' (first | refine rR ?_ | refine rG ?_ ?_ <;> intro hc | refine rZ ?_ | fail))
              (have hF := an hp0 <| an h11 <| an h12 <| an e12 <| an gH2 <| an henc <| an hle <| hdd; have hc := trivial; repeat' (first | refine wK ?_ | refine wX ?_ | refine rR ?_ | refine rB ?_ ?_ <;> intro ht <;> try simp only [bbs] at ht | refine rG ?_ ?_ <;> intro hc | refine rZ ?_ | refine wQ ?_))
              all_goals try exact False.elim kk
              have hflat : (acc.map encRecord).flatten ++ [.v (.int .i64 t'), .v (.int .i64 (recAt l pp t').Node), .v (.int .i64 (recAt l pp t').Port)] = ((acc ++ [recAt l pp t']).map encRecord).flatten := by rw [flat_snoc, hcv x']
              rw [hflat] at hacc'
              have hlen1 : (acc ++ [recAt l pp t']).length = acc.length + 1 := by simp
              have hS := an h0 <| an h2 <| an h3 <| an h4 <| an h8 <| an h9 <| an h10 <| h11; refine ⟨_, Nat.sub_lt (by omega) Nat.one_pos, j + 1, (pp + (recB (recAt l pp t')).length), (acc ++ [recAt l pp t']), x', f, by omega, sl, sl, sl, sl, sl, sl, sl, sl, ?_⟩
              refine ⟨?_, ?_, ?_, ?_, ?_, ?_, ?_, ?_, ?_, ?_, ?_, ?_, ?_, ?_⟩
              · simp only [Hp.set_h, Nat.reduceEqDiff, if_false]; exact e0
              · simp only [Hp.set_h, Nat.reduceEqDiff, if_false]; exact e1
              · simp only [Hp.set_h, if_true]
              · simp only [Hp.set_h, Nat.reduceEqDiff, if_false]; exact e4
              · rw [hlen1]; exact hacc'.setOff (ho2 2 (hlt5 2 (by omega)) (hoff 2 (by omega))) _
              · exact Nat.lt_of_lt_of_le (show 4 < H2.g by omega) hg'
              · exact fun b hb => ho2 b (hlt5 b hb) (hoff b hb)
              · rw [List.length_drop] at hpr; omega
              · intro _
                rw [hfu hs0, rdR, if_neg (show ¬ l.length ≤ pp by omega), if_pos ⟨hty, hoa, hord⟩]
              · intro h; exact absurd hs0 h
              · rw [hlen1]; omega
              · rw [hlen1, lastN_snoc]; omega
              · intro r hr'
                rcases List.mem_append.1 hr' with h | h
                · exact hro r h
                · simp only [List.mem_singleton] at h; subst h; exact hrok
              · intro h; simp at h
      · have hfin : (if num1 l 3 = 0 then rdR l t' 5 (endA l) [] else some []) = some acc := by
          by_cases hs0 : num1 l 3 = 0
          · rw [if_pos hs0, hfu hs0, rdR, if_pos (show l.length ≤ pp by omega)]
          · rw [if_neg hs0, hac0 hs0]
        rw [hfin] at hraq
        simp only at hraq
        have hmadeF : ∀ (cut : Bool) (all : List RecordM) (y : AV) (K : Hp), RAcc K y 3 (all.map encRecord).flatten all.length → all.length ≤ 100 → (∀ r ∈ all, recOk r) → acc.length ≤ all.length → decide (acc.length < all.length) = cut → all.take acc.length = acc → call Tryz.prog cfg0 0 42 [bytesL [a, b], .v (.int .i64 (num1 l 3)), bytesL (quA l), y, .v (.int .i64 (acc.length : Nat))] K = some (bytesL (ansB [a, b] (num1 l 3) cut (quA l) acc), K) := fun cut all y K ha h100 hroa hle hcu htk => by
          have hp := p_imade [a, b] (quA l) (num1 l 3) all acc.length (by simp) (by omega) (by omega) hle b3 hroa
          rw [htk, hcu] at hp
          exact call_of Tryz.func42 rfl ok_imade rfl (by omega) (mapM_c (fz_deep (fz_bytes _) _) (mapM_c rfl (mapM_c (fz_deep (fz_bytes _) _) (mapM_c (deep_racc (d := 11) ha rfl (by omega) (fun _ => rfl) (fun k => fzE_Record 10 k)) (mapM_c rfl mapM_n))))) hp (.inl rfl)
        have hEq : ∀ cut, ∀ H, call Tryz.prog cfg0 0 35 [bytesL (ansB [a, b] (num1 l 3) cut (quA l) acc), bytesL l] H = some (.v (.bool (decide (ansB [a, b] (num1 l 3) cut (quA l) acc = l))), H) := fun cut => c_bEqual _ l (ansB_bytes hb2 hqw b3 hro) hb
        rcases Classical.em (pp < l.length) with hlt | hlt
        case' inl =>
          have hD0 : ((0 : Int) < ((l.drop pp).length : Nat)) = True := eq_true (by rw [List.length_drop]; omega)
          have hsT : (num1 l 3 = 0) = False := eq_false (fun e => hgo ⟨hlt, e⟩)
          (have hF := an hp0 <| an h8 <| an h11 <| an hD0 <| hsT; have hc := trivial; repeat' ((fail_if_success (first | refine wAt 31 ?_ | refine wAtL 31 ?_)); first | refine wK ?_ | refine wX ?_ | refine rR ?_ | refine rB ?_ ?_ <;> intro ht <;> try simp only [bbs] at ht | refine rG ?_ ?_ <;> intro hc | refine rZ ?_ | refine wQ ?_))
          all_goals try exact False.elim kk
        case' inr =>
          have hD0 : ((0 : Int) < ((l.drop pp).length : Nat)) = False := eq_false (by rw [List.length_drop]; omega)
          (have hF := an hp0 <| an h8 <| an h11 <| hD0; have hc := trivial; repeat' ((fail_if_success (first | refine wAt 31 ?_ | refine wAtL 31 ?_)); first | refine wK ?_ | refine wX ?_ | refine rR ?_ | refine rB ?_ ?_ <;> intro ht <;> try simp only [bbs] at ht | refine rG ?_ ?_ <;> intro hc | refine rZ ?_ | refine wQ ?_))
          all_goals try exact False.elim kk
        all_goals
          refine wAt 31 ?_
          have hS := an h0 <| an h2 <| an h3 <| an h4 <| an h8 <| an h9 <| h10; refine wEnv (fun e2 => e2 0 = bytesL l ∧ e2 2 = .ptr 0 0 ∧ e2 3 = .ptr 1 0 ∧ e2 4 = .ptr 2 0 ∧ e2 8 = .v (.int .i64 (num1 l 3)) ∧ e2 9 = bytesL (quA l) ∧ e2 10 = .ptr 4 0) ⟨sl, sl, sl, sl, sl, sl, sl⟩ (fun e hY => ?_); obtain ⟨h0, h2, h3, h4, h8, h9, h10⟩ := hY
          obtain ⟨y, H3, hcl, hry, hex, hoy⟩ := cr_CloneR H x acc hr hxn (by omega)
          have c0 := hex.at (by omega) b0
          have c1 := hex.at (by omega) b1
          have c2 := hex.at (by omega) b2
          have c4 := hex.at (by omega) b4
          have hg3 := hex.1
          have hrx := hr.ext hex
          cases hct2 : ctA l with
          | false =>
            rw [hct2] at c2
            have hm := hmadeF false acc y H3 hry (by omega) hro (Nat.le_refl _) (decide_eq_false (Nat.lt_irrefl _)) (by rw [List.take_length])
            have hE := hEq false
            by_cases he : ansB [a, b] (num1 l 3) false (quA l) acc = l
            · rw [decide_eq_true he] at hE
              rw [hraq, show aRo l (arE l t' (num1 l 3) acc) = arA 0 (num2n l 0) (num1 l 3) false acc by unfold arE chk; rw [if_neg (by simp [hct2]), h2t, if_pos he]; unfold aRo; simp only [hct2]]
              (have hF := an hp0 <| an h0 <| an h2 <| an h3 <| an h4 <| an h8 <| an h9 <| an h10 <| an b2 <| an hlen <| an hcl <| an c0 <| an c1 <| an c2 <| an hsl2 <| an Nat.zero_le <| an Nat.sub_zero <| an h2t <| an hm <| an hE <| an hrx.one.1 <| hrx.one.2; have hc := trivial; repeat' (first | refine wK ?_ | refine wX ?_ | refine rR ?_ | refine rB ?_ ?_ <;> intro ht <;> try simp only [bbs] at ht | refine rG ?_ ?_ <;> intro hc | refine rZ ?_ | refine wQ ?_))
              all_goals try exact False.elim kk
              all_goals exact gO_ar (hrx.setOff (hoff 0 (by omega)) _)
            · rw [decide_eq_false he] at hE
              rw [hraq, show aRo l (arE l t' (num1 l 3) acc) = arA 5 0 0 false [] by unfold arE chk; rw [if_neg (by simp [hct2]), h2t, if_neg he]; rfl]
              (have hF := an hp0 <| an h0 <| an h2 <| an h3 <| an h4 <| an h8 <| an h9 <| an h10 <| an b2 <| an hlen <| an hcl <| an c0 <| an c1 <| an c2 <| an hsl2 <| an Nat.zero_le <| an Nat.sub_zero <| an h2t <| an hm <| hE; have hc := trivial; repeat' (first | refine wK ?_ | refine wX ?_ | refine rR ?_ | refine rB ?_ ?_ <;> intro ht <;> try simp only [bbs] at ht | refine rG ?_ ?_ <;> intro hc | refine rZ ?_ | refine wQ ?_))
              all_goals try exact False.elim kk
              all_goals exact gO_ar0 _ _ _ _ _
          | true =>
            rw [hct2] at c2
            have k0 : (0 = H3.g) = False := eq_false (by omega)
            have k1 : (1 = H3.g) = False := eq_false (by omega)
            have k2 : (2 = H3.g) = False := eq_false (by omega)
            have k4 : (4 = H3.g) = False := eq_false (by omega)
            by_cases hs0 : num1 l 3 = 0
            rotate_left
            · have ha0 := hac0 hs0
              have hn0 : ((0 : Int) < ((acc.length : Nat) : Int)) = False := eq_false (by rw [ha0]; simp)
              have hsF : (num1 l 3 = 0) = False := eq_false hs0
              rw [hraq, show aRo l (arE l t' (num1 l 3) acc) = arA 5 0 0 false [] by unfold arE; rw [if_pos hct2, if_neg (fun z => hs0 z.1)]; rfl]
              (have hF := an hp0 <| an h0 <| an h2 <| an h3 <| an h4 <| an h8 <| an h9 <| an h10 <| an b2 <| an hlen <| an hcl <| an c0 <| an c1 <| an c2 <| an c4 <| an k0 <| an k1 <| an k2 <| an k4 <| an hn0 <| hsF; have hc := trivial; repeat' (first | refine wK ?_ | refine wX ?_ | refine rR ?_ | refine rB ?_ ?_ <;> intro ht <;> try simp only [bbs] at ht | refine rG ?_ ?_ <;> intro hc | refine rZ ?_ | refine wQ ?_))
              all_goals try exact False.elim kk
              all_goals exact gO_ar0 _ _ _ _ _
            have hty := htb hs0
            have hsT : (num1 l 3 = 0) = True := eq_true hs0
            (have hF := an hp0 <| an h0 <| an h2 <| an h3 <| an h4 <| an h8 <| an h9 <| an h10 <| an b2 <| an hlen <| an hcl <| an c0 <| an c1 <| an c2 <| an c4 <| an k0 <| an k1 <| an k2 <| k4; have hc := trivial; repeat' ((fail_if_success (first | refine wAt 35 ?_ | refine wAtL 35 ?_)); first | refine wK ?_ | refine wX ?_ | refine rR ?_ | refine rB ?_ ?_ <;> intro ht <;> try simp only [bbs] at ht | refine rG ?_ ?_ <;> intro hc | refine rZ ?_ | refine wQ ?_))
            all_goals try exact False.elim kk
            all_goals
              refine wMid (fun s => s.1 0 = bytesL l ∧ s.1 2 = .ptr 0 0 ∧ s.1 3 = .ptr 1 0 ∧ s.1 4 = .ptr 2 0 ∧ s.1 8 = .v (.int .i64 (num1 l 3)) ∧ s.1 9 = bytesL (quA l) ∧ s.1 16 = .v (.int .i64 (acc.length : Nat)) ∧ s.1 17 = y ∧ s.1 18 = .ptr H3.g 0 ∧ s.2.h H3.g = some [.v (.int .i64 t'), .v (.int .i64 (lastN acc + 1)), .v (.int .i64 0)] ∧ Ext H3 s.2 ∧ H3.g < s.2.g) ?_ ?_
              · rcases List.eq_nil_or_concat acc with hr0 | ⟨acc0, r0, hr0⟩
                · have hn0 : ((0 : Int) < ((acc.length : Nat) : Int)) = False := eq_false (by rw [hr0]; simp)
                  have hl1 : lastN acc + 1 = 0 := by rw [hr0]; rfl
                  rw [hl1]
                  (have hF := an hp0 <| hn0; have hc := trivial; repeat' (first | refine wK ?_ | refine wX ?_ | refine rR ?_ | refine rB ?_ ?_ <;> intro ht <;> try simp only [bbs] at ht | refine rG ?_ ?_ <;> intro hc | refine rZ ?_ | refine wQ ?_))
                  all_goals try exact False.elim kk
                  show (_ = _) ∧ (_ = _) ∧ (_ = _) ∧ (_ = _) ∧ (_ = _) ∧ (_ = _) ∧ (_ = _) ∧ (_ = _) ∧ (_ = _) ∧ (_ = _) ∧ Ext _ _ ∧ _
                  simp only [upd_eq, put, Nat.reduceEqDiff, if_false, if_true]
                  exact ⟨h0, h2, h3, h4, h8, h9, trivial, trivial, trivial, by simp [Hp.set_h], (((Ext.refl H3).new _).set (Nat.le_refl _) _), by simp⟩
                · rw [List.concat_eq_append] at hr0
                  have hln : lastN acc = r0.Node := by rw [hr0, lastN_snoc]
                  have hal : acc.length = acc0.length + 1 := by rw [hr0]; simp
                  obtain ⟨bx, hbx, hxe, hbc⟩ := RAcc.slE hr (by omega)
                  have hbc3 := hex.at hbx hbc
                  have hcell := rec_cell hr0
                  have wn : IntKind.wrap .i64 (((acc.length : Nat) : Int) - 1) = ((acc0.length : Nat) : Int) := by rw [wrap_i64 (by omega) (by omega)]; omega
                  have hn0 : ((0 : Int) < ((acc.length : Nat) : Int)) = True := eq_true (by omega)
                  have hlt2 : (acc0.length < acc.length) = True := eq_true (by omega)
                  have gx3 : (bx = H3.g) = False := eq_false (by omega)
                  have wq : IntKind.wrap .i64 (r0.Node + 1) = r0.Node + 1 := wrap_i64 (by omega) (by omega)
                  rw [hln]
                  subst hxe
                  (have hF := an hp0 <| an h4 <| an hn0 <| an c2 <| an k2 <| an gx3 <| an hbc3 <| an wn <| an hlt2 <| an hcell <| an wq <| @Option.isSome_some.{0}; have hc := trivial; repeat' (first | refine wK ?_ | refine wX ?_ | refine rR ?_ | refine rB ?_ ?_ <;> intro ht <;> try simp only [bbs] at ht | refine rG ?_ ?_ <;> intro hc | refine rZ ?_ | refine wQ ?_))
                  all_goals try exact False.elim kk
                  show (_ = _) ∧ (_ = _) ∧ (_ = _) ∧ (_ = _) ∧ (_ = _) ∧ (_ = _) ∧ (_ = _) ∧ (_ = _) ∧ (_ = _) ∧ (_ = _) ∧ Ext _ _ ∧ _
                  simp only [upd_eq, put, Nat.reduceEqDiff, if_false, if_true]
                  exact ⟨h0, h2, h3, h4, h8, h9, trivial, trivial, trivial, by simp [Hp.set_h], ((((Ext.refl H3).new _).set (Nat.le_refl _) _).set (Nat.le_refl _) _), by simp⟩
              clear h0 h2 h3 h4 h8 h9 h10
              rintro ⟨e3, H4⟩ ⟨h0, h2, h3, h4, h8, h9, h16, h17, h18, hb18, hex4, hg4⟩
              simp only at h0 h2 h3 h4 h8 h9 h16 h17 h18 hb18 hex4 hg4
              show Wp _ _ _ _ _ _
              have d0 := hex4.at (by omega) c0
              have d1 := hex4.at (by omega) c1
              have d2 := hex4.at (by omega) c2
              have hnd := c_iisNode (lastN acc + 1)
              cases hN : inB (lastN acc + 1) 0 3 with
              | false =>
                rw [hN] at hnd
                have hcf : ¬ (num1 l 3 = 0 ∧ cutB l t' acc = true) := fun z => by
                  have := z.2; unfold cutB at this; simp only [Bool.and_eq_true, decide_eq_true_eq] at this
                  have h9 := inB_f.1 hN; omega
                rw [hraq, show aRo l (arE l t' (num1 l 3) acc) = arA 5 0 0 false [] by unfold arE; rw [if_pos hct2, if_neg hcf]; rfl]
                (have hF := an hp0 <| an h0 <| an h2 <| an h3 <| an h4 <| an h8 <| an h9 <| an h16 <| an h17 <| an h18 <| an hb18 <| an d0 <| an d1 <| an d2 <| an hsT <| an hnd <| not_true_eq_false; have hc := trivial; repeat' (first | refine wK ?_ | refine wX ?_ | refine rR ?_ | refine rB ?_ ?_ <;> intro ht <;> try simp only [bbs] at ht | refine rG ?_ ?_ <;> intro hc | refine rZ ?_ | refine wQ ?_))
                all_goals try exact False.elim kk
                all_goals exact gO_ar0 _ _ _ _ _
              | true =>
                rw [hN] at hnd
                have hrok : recOk ⟨t', lastN acc + 1, 0⟩ := ⟨typ_or hty, inB_t.1 hN, by simp⟩
                have henc : ∀ K, call Tryz.prog cfg0 0 51 [.agg [.v (.int .i64 t'), .v (.int .i64 (lastN acc + 1)), .v (.int .i64 0)]] K = some (bytesL (recB ⟨t', lastN acc + 1, 0⟩), K) := c_iRecord_encoded _ hrok
                have hrl : (recB ⟨t', lastN acc + 1, 0⟩).length = if t' = 1 then 16 else 22 := recW
                have hrl22 : (recB ⟨t', lastN acc + 1, 0⟩).length ≤ 22 := by rw [hrl]; split <;> omega
                have wl : IntKind.wrap .i64 (((l.length : Nat) : Int) + ((recB ⟨t', lastN acc + 1, 0⟩).length : Nat)) = ((l.length : Nat) : Int) + ((recB ⟨t', lastN acc + 1, 0⟩).length : Nat) := wrap_i64 (by omega) (by omega)
                have hcu : cutB l t' acc = decide ((60 : Int) < ((l.length : Nat) : Int) + ((recB ⟨t', lastN acc + 1, 0⟩).length : Nat)) := by
                  unfold cutB
                  rw [decide_eq_true (show lastN acc < 3 by have := (inB_t.1 hN).2; omega), Bool.true_and, hrl]
                  rcases typ_or hty with h | h <;> subst h <;> rfl
                by_cases h60 : ((l.length : Nat) : Int) + ((recB ⟨t', lastN acc + 1, 0⟩).length : Nat) ≤ 60
                · have hcf : ¬ (num1 l 3 = 0 ∧ cutB l t' acc = true) := fun z => by rw [hcu] at z; have := of_decide_eq_true z.2; omega
                  rw [hraq, show aRo l (arE l t' (num1 l 3) acc) = arA 5 0 0 false [] by unfold arE; rw [if_pos hct2, if_neg hcf]; rfl]
                  (have hF := an hp0 <| an h0 <| an h2 <| an h3 <| an h4 <| an h8 <| an h9 <| an h16 <| an h17 <| an h18 <| an hb18 <| an d0 <| an d1 <| an d2 <| an hsT <| an hnd <| an henc <| an wl <| an h60 <| not_true_eq_false; have hc := trivial; repeat' (first | refine wK ?_ | refine wX ?_ | refine rR ?_ | refine rB ?_ ?_ <;> intro ht <;> try simp only [bbs] at ht | refine rG ?_ ?_ <;> intro hc | refine rZ ?_ | refine wQ ?_))
                  all_goals try exact False.elim kk
                  all_goals exact gO_ar0 _ _ _ _ _
                have hct3 : num1 l 3 = 0 ∧ cutB l t' acc = true := ⟨hs0, by rw [hcu]; exact decide_eq_true (by omega)⟩
                (have hF := an hp0 <| an h0 <| an h2 <| an h3 <| an h4 <| an h8 <| an h9 <| an h16 <| an h17 <| an h18 <| an hb18 <| an d0 <| an d1 <| an d2 <| an hsT <| an hnd <| an henc <| an wl <| an h60 <| not_true_eq_false; have hc := trivial; repeat' ((fail_if_success (first | refine wAt 39 ?_ | refine wAtL 39 ?_)); first | refine wK ?_ | refine wX ?_ | refine rR ?_ | refine rB ?_ ?_ <;> intro ht <;> try simp only [bbs] at ht | refine rG ?_ ?_ <;> intro hc | refine rZ ?_ | refine wQ ?_))
                all_goals try exact False.elim kk
                have hS := an h0 <| an h2 <| an h3 <| an h4 <| an h8 <| an h9 <| an h16 <| an h17 <| h18; refine wEnv (fun e2 => e2 0 = bytesL l ∧ e2 2 = .ptr 0 0 ∧ e2 3 = .ptr 1 0 ∧ e2 4 = .ptr 2 0 ∧ e2 8 = .v (.int .i64 (num1 l 3)) ∧ e2 9 = bytesL (quA l) ∧ e2 16 = .v (.int .i64 (acc.length : Nat)) ∧ e2 17 = y ∧ e2 18 = .ptr H3.g 0) ⟨sl, sl, sl, sl, sl, sl, sl, sl, sl⟩ (fun e hY => ?_); obtain ⟨h0, h2, h3, h4, h8, h9, h16, h17, h18⟩ := hY
                have hF := an hp0 <| an h17 <| an h18 <| hb18; have hc := trivial; (try refine wX ?_); refine rN (fun xx hx => ?_); generalize hq : aappend Tryz.prog _ _ _ _ = q at hx
                obtain ⟨y2, H5, rfl, hac5, hg5, hk5, ho5⟩ := app_rows hq el39 zero86 by86 int39 (sz := 3) rfl (by omega) (hry.ext hex4) (m := 1) rfl (afirst_one _ _ [.v (.int .i64 t'), .v (.int .i64 (lastN acc + 1)), .v (.int .i64 0)]) rfl (by omega) (by omega)
                clear hq
                (subst hx; have hF := hp0; have hc := trivial; repeat' (first | refine rR ?_ | refine rG ?_ ?_ <;> intro hc | refine rZ ?_ | fail))
                have hex5 : Ext H H5 := ⟨by have := hex4.1; omega, fun b hb => by
                  have q1 := hex4.1
                  rw [hk5 b (by omega) (hoy b hb), hex4.2 b (by omega), hex.2 b hb]⟩
                have f0 := hex5.at (by omega) b0
                have f1 := hex5.at (by omega) b1
                have f2 := hex5.at (by omega) b2
                rw [hct2] at f2
                have hrx5 := hr.ext hex5
                have hall : (acc.map encRecord).flatten ++ [.v (.int .i64 t'), .v (.int .i64 (lastN acc + 1)), .v (.int .i64 0)] = ((acc ++ [(⟨t', lastN acc + 1, 0⟩ : RecordM)]).map encRecord).flatten := by rw [flat_snoc]; rfl
                rw [hall] at hac5
                have hlen1 : (acc ++ [(⟨t', lastN acc + 1, 0⟩ : RecordM)]).length = acc.length + 1 := by simp
                have hm := hmadeF true (acc ++ [⟨t', lastN acc + 1, 0⟩]) y2 H5 (by rw [hlen1]; exact hac5) (by omega) (fun r hr' => by
                  rcases List.mem_append.1 hr' with h | h
                  · exact hro r h
                  · simp only [List.mem_singleton] at h; subst h; exact hrok) (by omega) (decide_eq_true (by omega)) (by simp)
                have hE := hEq true
                by_cases he : ansB [a, b] (num1 l 3) true (quA l) acc = l
                · rw [decide_eq_true he] at hE
                  rw [hraq, show aRo l (arE l t' (num1 l 3) acc) = arA 0 (num2n l 0) (num1 l 3) true acc by unfold arE chk; rw [if_pos hct2, if_pos hct3, h2t, if_pos he]; unfold aRo; simp only [hct2]]
                  (have hF := an hp0 <| an h0 <| an h2 <| an h3 <| an h4 <| an h8 <| an h9 <| an h16 <| an f0 <| an f1 <| an f2 <| an hsl2 <| an Nat.zero_le <| an Nat.sub_zero <| an h2t <| an hm <| an hE <| an hrx5.one.1 <| hrx5.one.2; have hc := trivial; repeat' (first | refine wK ?_ | refine wX ?_ | refine rR ?_ | refine rB ?_ ?_ <;> intro ht <;> try simp only [bbs] at ht | refine rG ?_ ?_ <;> intro hc | refine rZ ?_ | refine wQ ?_))
                  all_goals try exact False.elim kk
                  all_goals exact gO_ar (hrx5.setOff (hoff 0 (by omega)) _)
                · rw [decide_eq_false he] at hE
                  rw [hraq, show aRo l (arE l t' (num1 l 3) acc) = arA 5 0 0 false [] by unfold arE chk; rw [if_pos hct2, if_pos hct3, h2t, if_neg he]; rfl]
                  (have hF := an hp0 <| an h0 <| an h2 <| an h3 <| an h4 <| an h8 <| an h9 <| an h16 <| an f0 <| an f1 <| an f2 <| an hsl2 <| an Nat.zero_le <| an Nat.sub_zero <| an h2t <| an hm <| hE; have hc := trivial; repeat' (first | refine wK ?_ | refine wX ?_ | refine rR ?_ | refine rB ?_ ?_ <;> intro ht <;> try simp only [bbs] at ht | refine rG ?_ ?_ <;> intro hc | refine rZ ?_ | refine wQ ?_))
                  all_goals try exact False.elim kk
                  all_goals exact gO_ar0 _ _ _ _ _
theorem c_iReadAnswer (l : List Int) (hb : Eng.Bytes l) (hl : l.length ≤ 1048576) : ∀ H, call Tryz.prog cfg0 0 15 [bytesL l] H = some (raX l, H) :=
  call_fz Tryz.func15 rfl ok_iReadAnswer rfl (by simp only [fz_cons, fz_nil, go_sem, and_self]) (pq_iReadAnswer l hb hl).1
end
end Go.Proofs.YtnejoidfbgklbaaGreatDoor
