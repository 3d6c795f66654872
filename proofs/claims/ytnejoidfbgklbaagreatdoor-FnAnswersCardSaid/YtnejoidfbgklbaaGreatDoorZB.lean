/- Contracts: draws of queries. Contracts: queries drawn to be packed. Contracts: queries and answers drawn to be read. Contracts: answers drawn. -/
import Derived.Test.YtnejoidfbgklbaaGreatDoorRR
import Derived.Test.YtnejoidfbgklbaaGreatDoorNB
import Derived.Test.YtnejoidfbgklbaaGreatDoorNC
import Derived.Test.YtnejoidfbgklbaaGreatDoorNE
import Derived.Test.YtnejoidfbgklbaaGreatDoorZA
namespace Go.Proofs.YtnejoidfbgklbaaGreatDoor
open Go Go.RowKit Go.Proofs.YtnejoidfbgklbaaGreatDoor.Eng
set_option linter.unusedSimpArgs false
set_option linter.unusedVariables false
set_option maxRecDepth 100000
set_option maxHeartbeats 2000000
noncomputable section
theorem bs_10 (d a b c e f g h i j k : AV) : bs 10 [d] [(0, a), (1, b), (2, c), (3, e), (4, f), (5, g), (6, h), (7, i), (8, j), (9, k)] = if okc a = true ∧ okc b = true ∧ okc c = true ∧ okc e = true ∧ okc f = true ∧ okc g = true ∧ okc h = true ∧ okc i = true ∧ okc j = true ∧ okc k = true then some ([a, b, c, e, f, g, h, i, j, k], 1) else bs' 10 [d] [(0, a), (1, b), (2, c), (3, e), (4, f), (5, g), (6, h), (7, i), (8, j), (9, k)] := by
  split
  · rename_i q
    obtain ⟨q1, q2, q3, q4, q5, q6, q7, q8, q9, q10⟩ := q
    simp [bs, afill, zeros, asC_ok q1, asC_ok q2, asC_ok q3, asC_ok q4, asC_ok q5, asC_ok q6, asC_ok q7, asC_ok q8, asC_ok q9, asC_ok q10, setAll, List.replicate]
  · rfl
theorem chunk_one10 (a b c e f g h i j k : AV) : chunk 1 10 [a, b, c, e, f, g, h, i, j, k] = [[a], [b], [c], [e], [f], [g], [h], [i], [j], [k]] := rfl
section
variable {code : List Int} {a : Nat} {H : Hp} {b : Nat} {q : Option (AV × Hp)}
def someTab : List (List ByteArray) := [[⟨#[115, 49]⟩, ⟨#[108, 111, 99, 97, 108]⟩], [⟨#[115, 48]⟩, ⟨#[108, 111, 99, 97, 108]⟩], [⟨#[115, 49, 50]⟩, ⟨#[108, 111, 99, 97, 108]⟩], [⟨#[115, 49]⟩], [⟨#[97]⟩, ⟨#[98]⟩, ⟨#[99]⟩], [], [⟨#[115, 48, 49]⟩, ⟨#[108, 111, 99, 97, 108]⟩], [⟨#[120, 45, 57]⟩, ⟨#[108, 111, 99, 97, 108]⟩], [⟨#[115, 49, 48, 48]⟩, ⟨#[108, 111, 99, 97, 108]⟩], [⟨#[115, 49]⟩, ⟨#[108, 111, 99, 97, 108, 115]⟩]]
def textsT (l : List ByteArray) : AV := .lst true (l.map fun s => [.v (.string s)])
theorem some_get (n : Nat) (hn : n < 10) : ∃ l ∈ someTab, ([[AV.lst true [[AV.v (.string ⟨#[115, 49]⟩)], [AV.v (.string ⟨#[108, 111, 99, 97, 108]⟩)]]], [AV.lst true [[AV.v (.string ⟨#[115, 48]⟩)], [AV.v (.string ⟨#[108, 111, 99, 97, 108]⟩)]]], [AV.lst true [[AV.v (.string ⟨#[115, 49, 50]⟩)], [AV.v (.string ⟨#[108, 111, 99, 97, 108]⟩)]]], [AV.lst true [[AV.v (.string ⟨#[115, 49]⟩)]]], [AV.lst true [[AV.v (.string ⟨#[97]⟩)], [AV.v (.string ⟨#[98]⟩)], [AV.v (.string ⟨#[99]⟩)]]], [AV.lst true []], [AV.lst true [[AV.v (.string ⟨#[115, 48, 49]⟩)], [AV.v (.string ⟨#[108, 111, 99, 97, 108]⟩)]]], [AV.lst true [[AV.v (.string ⟨#[120, 45, 57]⟩)], [AV.v (.string ⟨#[108, 111, 99, 97, 108]⟩)]]], [AV.lst true [[AV.v (.string ⟨#[115, 49, 48, 48]⟩)], [AV.v (.string ⟨#[108, 111, 99, 97, 108]⟩)]]], [AV.lst true [[AV.v (.string ⟨#[115, 49]⟩)], [AV.v (.string ⟨#[108, 111, 99, 97, 108, 115]⟩)]]]] : List (List AV))[n]? = some [AV.lst true (l.map fun s => [AV.v (.string s)])] := by
  match n, hn with
  | 0, _ => exact ⟨[⟨#[115, 49]⟩, ⟨#[108, 111, 99, 97, 108]⟩], by simp [someTab], rfl⟩
  | 1, _ => exact ⟨[⟨#[115, 48]⟩, ⟨#[108, 111, 99, 97, 108]⟩], by simp [someTab], rfl⟩
  | 2, _ => exact ⟨[⟨#[115, 49, 50]⟩, ⟨#[108, 111, 99, 97, 108]⟩], by simp [someTab], rfl⟩
  | 3, _ => exact ⟨[⟨#[115, 49]⟩], by simp [someTab], rfl⟩
  | 4, _ => exact ⟨[⟨#[97]⟩, ⟨#[98]⟩, ⟨#[99]⟩], by simp [someTab], rfl⟩
  | 5, _ => exact ⟨[], by simp [someTab], rfl⟩
  | 6, _ => exact ⟨[⟨#[115, 48, 49]⟩, ⟨#[108, 111, 99, 97, 108]⟩], by simp [someTab], rfl⟩
  | 7, _ => exact ⟨[⟨#[120, 45, 57]⟩, ⟨#[108, 111, 99, 97, 108]⟩], by simp [someTab], rfl⟩
  | 8, _ => exact ⟨[⟨#[115, 49, 48, 48]⟩, ⟨#[108, 111, 99, 97, 108]⟩], by simp [someTab], rfl⟩
  | 9, _ => exact ⟨[⟨#[115, 49]⟩, ⟨#[108, 111, 99, 97, 108, 115]⟩], by simp [someTab], rfl⟩
theorem ok_10Some : fnOk Tryz.prog cfg0 64 Tryz.f64 = true := by kernel_rfl
theorem d_10Some (hco : CodeOk code) (hS : Src H b code a) (ha : a ≤ 700000000) (hq : call Tryz.prog cfg0 0 64 [.ptr b 0] H = q) :
    ∃ (l : List ByteArray) (H' : Hp), q = some (textsT l, H') ∧ l ∈ someTab ∧ Src H' b code (a + 1) ∧ Fr b H H' := by
  subst hq
  have key : ∃ r, body Tryz.prog cfg0 64 Tryz.f64 [.ptr b 0] H = some r ∧ (∃ (l : List ByteArray), r.1 = textsT l ∧ l ∈ someTab ∧ Src r.2 b code (a + 1) ∧ Fr b H r.2) := by
    refine body_wp (rs := [.tmp 2]) rfl rfl (R := fun x H' => ∃ (l : List ByteArray), x = textsT l ∧ l ∈ someTab ∧ Src H' b code (a + 1) ∧ Fr b H H') ?_
    have hp0 : ∀ b, cfg0.pol 64 b = 0 := fun b => rfl
    (have hF := an hp0 <| an bs_10 <| chunk_one10; have hc := trivial; repeat' ((fail_if_success (first | refine wAt 2 ?_ | refine wAtL 2 ?_)); first | refine wK ?_ | refine wX ?_ | refine rR ?_ | refine rB ?_ ?_ <;> intro ht <;> try simp only [bbs] at ht | refine rG ?_ ?_ <;> intro hc | refine rZ ?_ | refine wQ ?_))
    all_goals try exact False.elim kk
    have hF := hp0; have hc := trivial; (try refine wX ?_); refine rN (fun xx hx => ?_); generalize hq : call Tryz.prog cfg0 0 _ _ _ = q at hx
    obtain ⟨v, H2, rfl, v1, S2, F2, G2⟩ := d_Next hco hS (by omega) (by omega) hq
    clear hq
    have hv := v1.2.1 (by omega)
    obtain ⟨l, hl, hz⟩ := some_get v.toNat (by omega)
    have hnat : natOf (.v (.int .i64 v)) = some v.toNat := by simp only [natOf]; rw [if_pos v1.1]
    (subst hx; have hF := an hp0 <| an hnat <| hz; have hc := trivial; repeat' (first | refine rR ?_ | refine rG ?_ ?_ <;> intro hc | refine rZ ?_ | fail))
    (have hF := hp0; have hc := trivial; repeat' (first | refine wK ?_ | refine wX ?_ | refine rR ?_ | refine rB ?_ ?_ <;> intro ht <;> try simp only [bbs] at ht | refine rG ?_ ?_ <;> intro hc | refine rZ ?_ | refine wQ ?_))
    all_goals try exact False.elim kk
    exact ⟨l, rfl, hl, S2, F2⟩
  obtain ⟨⟨x, H'⟩, h1, l, h2, h3, h4, h5⟩ := key
  exact ⟨l, H', by rw [call_raw Tryz.prog cfg0 Tryz.func64 rfl ok_10Some rfl rfl, h1, ← h2], h3, h4, h5⟩
end
theorem deep_tT (l : List ByteArray) (n : Nat) (H : Hp) : deep H (n + 2) (textsT l) = some (textsL l) := by
  show (List.mapM (fun (c : List AV) => c.mapM (deep H (n + 1))) _).map (AV.lst false) = _
  rw [mapM_self2 fun c hc => mapM_self fun x hx => by obtain ⟨z, -, rfl⟩ := List.mem_map.1 hc; simp only [List.mem_singleton] at hx; subst hx; rfl]; rfl
theorem tT_ok (l : List ByteArray) : okc (textsT l) = true ∧ asCells (textsT l) = some [textsT l] := ⟨rfl, rfl⟩
theorem some_ok : ∀ l ∈ someTab, labsOk l ∧ l.length ≤ 3 := by
  intro l hl
  simp only [someTab, List.mem_cons, List.not_mem_nil, or_false] at hl
  have key : ∀ ls : List ByteArray, (decide (ls.length ≤ 3) && ls.all labelOk) = true → labsOk ls ∧ ls.length ≤ 3 := fun ls h => by
    simp only [Bool.and_eq_true, decide_eq_true_eq, List.all_eq_true] at h
    exact ⟨⟨by omega, h.2⟩, h.1⟩
  rcases hl with rfl | rfl | rfl | rfl | rfl | rfl | rfl | rfl | rfl | rfl <;> exact key _ (by decide +kernel)
theorem ok_Later : fnOk Tryz.prog cfg0 36 Tryz.f36 = true := by kernel_rfl
theorem d_Later (code : List Int) (n : Nat) (hn : n ≤ 100) (n' : Int) (hn' : n' = n) (H : Hp) : call Tryz.prog cfg0 0 36 [bytesL code, .v (.int .i64 n')] H = some (.ptr H.g 0, H.new [bytesL code, .v (.int .i64 ((5 + 7 * n : Nat) : Int))]) := by
  subst hn'
  have key : ∃ r, body Tryz.prog cfg0 36 Tryz.f36 [bytesL code, .v (.int .i64 (n : Nat))] H = some r ∧ (r.1 = .ptr H.g 0 ∧ r.2 = H.new [bytesL code, .v (.int .i64 ((5 + 7 * n : Nat) : Int))]) := by
    refine body_wp (rs := [.tmp 4]) rfl rfl (R := fun x H' => x = .ptr H.g 0 ∧ H' = H.new [bytesL code, .v (.int .i64 ((5 + 7 * n : Nat) : Int))]) ?_
    have hp0 : ∀ b, cfg0.pol 36 b = 0 := fun b => rfl
    have w1 : IntKind.wrap .i64 (7 * (n : Int)) = 7 * (n : Int) := wrap_i64 (by omega) (by omega)
    have w2 : IntKind.wrap .i64 (5 + 7 * (n : Int)) = ((5 + 7 * n : Nat) : Int) := by rw [wrap_i64 (by omega) (by omega)]; omega
    (have hF := an hp0 <| an w1 <| w2; have hc := trivial; repeat' (first | refine wK ?_ | refine wX ?_ | refine rR ?_ | refine rB ?_ ?_ <;> intro ht <;> try simp only [bbs] at ht | refine rG ?_ ?_ <;> intro hc | refine rZ ?_ | refine wQ ?_))
    all_goals (constructor <;> first | trivial | rfl)
  obtain ⟨⟨v, H'⟩, h1, rfl, rfl⟩ := key
  rw [call_raw Tryz.prog cfg0 Tryz.func36 rfl ok_Later rfl rfl, h1]
section
variable {code : List Int} {a : Nat} {H : Hp} {b : Nat} {q : Option (AV × Hp)}
theorem ok_10DQ : fnOk Tryz.prog cfg0 22 Tryz.f22 = true := by kernel_rfl
theorem d_10DQ (hco : CodeOk code) (hS : Src H b code a) (ha : a ≤ 600000000) (hq : call Tryz.prog cfg0 0 22 [.ptr b 0] H = q) :
    ∃ (i t : Int) (l : List ByteArray) (H' : Hp), q = some (.agg [.v (.int .i64 i), textsT l, .v (.int .i64 t)], H') ∧ (0 ≤ i ∧ i ≤ 65535) ∧ (0 ≤ t ∧ t ≤ 65535) ∧ l ∈ someTab ∧ Src H' b code (a + 3) ∧ Fr b H H' := by
  subst hq
  have key : ∃ r, body Tryz.prog cfg0 22 Tryz.f22 [.ptr b 0] H = some r ∧ (∃ (i t : Int) (l : List ByteArray), r.1 = .agg [.v (.int .i64 i), textsT l, .v (.int .i64 t)] ∧ (0 ≤ i ∧ i ≤ 65535) ∧ (0 ≤ t ∧ t ≤ 65535) ∧ l ∈ someTab ∧ Src r.2 b code (a + 3) ∧ Fr b H r.2) := by
    refine body_wp (rs := [.cell 2 26]) rfl rfl (R := fun x H' => ∃ (i t : Int) (l : List ByteArray), x = .agg [.v (.int .i64 i), textsT l, .v (.int .i64 t)] ∧ (0 ≤ i ∧ i ≤ 65535) ∧ (0 ≤ t ∧ t ≤ 65535) ∧ l ∈ someTab ∧ Src H' b code (a + 3) ∧ Fr b H H') ?_
    have hp0 : ∀ b, cfg0.pol 22 b = 0 := fun b => rfl
    have hbg : b < H.g := hS.2
    have nb : (b = H.g) = False := eq_false (by omega)
    have S0 : Src (H.new [.v (.int .i64 0), .v (.slice none 0 0), .v (.int .i64 0)]) b code a := hS.ext (by simp) (by rw [Hp.new_h, if_neg (by omega)])
    (have hF := hp0; have hc := trivial; repeat' ((fail_if_success (first | refine wAt 1 ?_ | refine wAtL 1 ?_)); first | refine wK ?_ | refine wX ?_ | refine rR ?_ | refine rB ?_ ?_ <;> intro ht <;> try simp only [bbs] at ht | refine rG ?_ ?_ <;> intro hc | refine rZ ?_ | refine wQ ?_))
    have hF := hp0; have hc := trivial; (try refine wX ?_); refine rN (fun xx hx => ?_); generalize hq : call Tryz.prog cfg0 0 _ _ _ = q at hx
    obtain ⟨i, H1, rfl, i1, S1, F1, G1⟩ := d_Pick [0, 7, 65535] (by simp) hco S0 (by omega) hq
    clear hq
    subst hx; have hF := hp0; have hc := trivial; refine rN (fun xx hx => ?_); generalize hq : call Tryz.prog cfg0 0 _ _ _ = q at hx
    obtain ⟨l, H2, rfl, hl, S2, F2⟩ := d_10Some hco S1 (by omega) hq
    clear hq
    subst hx; have hF := hp0; have hc := trivial; refine rN (fun xx hx => ?_); generalize hq : call Tryz.prog cfg0 0 _ _ _ = q at hx
    obtain ⟨t, H3, rfl, t1, S3, F3, G3⟩ := d_Pick [1, 33, 1, 33, 28, 0] (by simp) hco S2 (by omega) hq
    clear hq
    have FF := (F1.trans F2).trans F3
    have hHg : H3.h H.g = some [.v (.int .i64 0), .v (.slice none 0 0), .v (.int .i64 0)] := (FF.2 H.g (by simp) (by omega)).trans (by rw [Hp.new_h, if_pos rfl])
    have tt := tT_ok l
    (subst hx; have hF := an hp0 <| an hHg <| an tt.1 <| tt.2; have hc := trivial; repeat' (first | refine rR ?_ | refine rG ?_ ?_ <;> intro hc | refine rZ ?_ | fail))
    (have hF := hp0; have hc := trivial; repeat' (first | refine wK ?_ | refine wX ?_ | refine rR ?_ | refine rB ?_ ?_ <;> intro ht <;> try simp only [bbs] at ht | refine rG ?_ ?_ <;> intro hc | refine rZ ?_ | refine wQ ?_))
    all_goals try exact False.elim kk
    have hg3 := FF.1
    simp only [Hp.new_g] at hg3
    refine ⟨i, t, l, rfl, ?_, ?_, hl, ⟨by rw [Hp.set_h, if_neg (by omega)]; exact S3.1, S3.2⟩, ((Fr.refl b H).new _).trans FF |>.setN (Nat.le_refl _) _⟩
    · simp only [List.mem_cons, List.not_mem_nil, or_false] at i1; omega
    · simp only [List.mem_cons, List.not_mem_nil, or_false] at t1; omega
  obtain ⟨⟨x, H'⟩, h1, i, t, l, h2, h3, h4, h5, h6, h7⟩ := key
  exact ⟨i, t, l, H', by rw [call_raw Tryz.prog cfg0 Tryz.func22 rfl ok_10DQ rfl rfl, h1, ← h2], h3, h4, h5, h6, h7⟩
end
section
variable {code : List Int}
theorem textsT_fl (l : List ByteArray) : (l.map fun s => [AV.v (.string s)]).flatten = l.map txcell := by
  induction l with
  | nil => rfl
  | cons s l ih => simp only [List.map_cons, List.flatten_cons, ih]; rfl
theorem ok_DrawEN : fnOk Tryz.prog cfg0 25 Tryz.f25 = true := by kernel_rfl
theorem c_DrawEN (hco : CodeOk code) : ∃ l : List ByteArray, (l.length ≤ 10 ∧ ∀ s ∈ l, s.size ≤ 1000) ∧ ∀ H, call Tryz.prog cfg0 0 25 [bytesL code] H = some (textsL l, H) := by
  have key : ∃ v cl, (∃ l : List ByteArray, (l.length ≤ 10 ∧ ∀ s ∈ l, s.size ≤ 1000) ∧ v = textsL l) ∧ pure Tryz.prog cfg0 25 Tryz.f25 [bytesL code] = some (v, cl) := by
    refine pure_ex (rs := [.tmp 2]) rfl rfl ?_
    have hp0 : ∀ b, cfg0.pol 25 b = 0 := fun b => rfl
    (have hF := an hp0 <| (d_Source code); have hc := trivial; repeat' ((fail_if_success (first | refine wAt 2 ?_ | refine wAtL 2 ?_)); first | refine wK ?_ | refine wX ?_ | refine rR ?_ | refine rB ?_ ?_ <;> intro ht <;> try simp only [bbs] at ht | refine rG ?_ ?_ <;> intro hc | refine rZ ?_ | refine wQ ?_))
    have hlit : ∀ K : Hp, litO K 0 0 (some ([], 1)) = some (.lst true [], K) := fun _ => rfl
    have hF := an hp0 <| hlit; have hc := trivial; (try refine wX ?_); refine rN (fun xx hx => ?_); generalize hq : call Tryz.prog cfg0 0 64 _ _ = q at hx
    obtain ⟨l, H1, rfl, hl, S1, F1⟩ := d_10Some hco (a := 0) (H := Hp.nil.new [bytesL code, .v (.int .i64 ((0 : Nat) : Int))]) ⟨new_same _ _, by simp⟩ (by omega) hq
    clear hq
    obtain ⟨hlo, hl3⟩ := some_ok l hl
    have hl20 : ∀ s ∈ l, s.size ≤ 1000 := fun s hs => by have := lab_size (hlo.2 s hs); omega
    subst hx; have hF := hp0; have hc := trivial; refine rN (fun xx hx => ?_); generalize hq : aappend Tryz.prog _ _ _ _ = q at hx
    obtain ⟨x, H2, rfl, hac, hg2, hk2, ho2⟩ := app_rows hq el24 zero9 by9 int24 (sz := 1) rfl (by omega) (RAcc.lst (H := H1)) (m := l.length) (by simp [alen, textsT]) (show afirst H1 1 l.length (textsT l) = some (l.map txcell) by unfold textsT; rw [← textsT_fl]; exact afirst_lst (fun c hc => by obtain ⟨z, -, rfl⟩ := List.mem_map.1 hc; rfl) (by simp)) (by simp) (by omega) (by omega)
    clear hq
    rw [List.nil_append, Nat.zero_add] at hac
    have hg1 : 1 ≤ H1.g := F1.1
    have hx0 : Off 0 x := ho2 0 (by omega) off_lst
    have S2 : Src H2 0 code 1 := ⟨(hk2 0 (by omega) off_lst).trans S1.1, by omega⟩
    (subst hx; have hF := hp0; have hc := trivial; repeat' (first | refine rR ?_ | refine rG ?_ ?_ <;> intro hc | refine rZ ?_ | fail))
    (have hF := hp0; have hc := trivial; repeat' ((fail_if_success (first | refine wAt 3 ?_ | refine wAtL 3 ?_)); first | refine wK ?_ | refine wX ?_ | refine rR ?_ | refine rB ?_ ?_ <;> intro ht <;> try simp only [bbs] at ht | refine rG ?_ ?_ <;> intro hc | refine rZ ?_ | refine wQ ?_))
    have hF := hp0; have hc := trivial; (try refine wX ?_); refine rN (fun xx hx => ?_); generalize hq : call Tryz.prog cfg0 0 _ _ _ = q at hx
    obtain ⟨v, H3, rfl, v1, S3, F3, G3⟩ := d_Next hco S2 (by omega) (by omega) hq
    clear hq
    have hac3 : RAcc H3 x 1 (l.map txcell) l.length := hac.keep F3.1 fun p hp ho => F3.2 p hp (fun e => ho (e ▸ hx0))
    (subst hx; have hF := hp0; have hc := trivial; repeat' (first | refine rR ?_ | refine rG ?_ ?_ <;> intro hc | refine rZ ?_ | fail))
    have fin : ∀ (K : Hp) (y : AV) (m : List ByteArray) (n : Nat), RAcc K y 1 (m.map txcell) n → m.length ≤ 10 → (∀ s ∈ m, s.size ≤ 1000) → ∃ v cl, (∃ l : List ByteArray, (l.length ≤ 10 ∧ ∀ s ∈ l, s.size ≤ 1000) ∧ v = textsL l) ∧ Gives v cl y K := fun K y m n hr h1 h2 => ⟨_, _, ⟨m, ⟨h1, h2⟩, rfl⟩, deep_labs hr 10, rfl⟩
    by_cases w0 : v = 0
    · subst w0
      (have hF := hp0; have hc := trivial; repeat' ((fail_if_success (first | refine wAt 6 ?_ | refine wAtL 6 ?_)); first | refine wK ?_ | refine wX ?_ | refine rR ?_ | refine rB ?_ ?_ <;> intro ht <;> try simp only [bbs] at ht | refine rG ?_ ?_ <;> intro hc | refine rZ ?_ | refine wQ ?_))
      all_goals try exact False.elim kk
      have hF := hp0; have hc := trivial; (try refine wX ?_); refine rN (fun xx hx => ?_); generalize hq : call Tryz.prog cfg0 0 _ _ _ = q at hx
      obtain ⟨v', H4, rfl, y1, S4, F4, G4⟩ := d_Next hco S3 (by omega) (by omega) hq
      clear hq
      have y2 := y1.2.1 (by omega)
      have hac4 : RAcc H4 x 1 (l.map txcell) l.length := hac3.keep F4.1 fun p hp ho => F4.2 p hp (fun e => ho (e ▸ hx0))
      have hnat : natOf (.v (.int .i64 v')) = some v'.toNat := by simp only [natOf]; rw [if_pos y1.1]
      obtain ⟨s, hs, hsz⟩ : ∃ s : ByteArray, ([[AV.v (.string ⟨#[]⟩)], [AV.v (.string ⟨#[65]⟩)], [AV.v (.string ⟨#[97, 46, 98]⟩)], [AV.v (.string ⟨#[97, 98, 99, 100, 101, 102, 103, 104, 105, 106, 107, 108, 109, 110, 111, 112, 113, 114, 115, 116, 117]⟩)], [AV.v (.string ⟨#[97, 98, 99, 100, 101, 102, 103, 104, 105, 106, 107, 108, 109, 110, 111, 112, 113, 114, 115, 116]⟩)]] : List (List AV))[v'.toNat]? = some [AV.v (.string s)] ∧ s.size ≤ 21 := by
        have h5 : v'.toNat < 5 := by omega
        match v'.toNat, h5 with
        | 0, _ => exact ⟨_, rfl, by decide⟩
        | 1, _ => exact ⟨_, rfl, by decide⟩
        | 2, _ => exact ⟨_, rfl, by decide⟩
        | 3, _ => exact ⟨_, rfl, by decide⟩
        | 4, _ => exact ⟨_, rfl, by decide⟩
      subst hx; have hF := an hp0 <| an hnat <| hs; have hc := trivial; refine rN (fun xx hx => ?_); generalize hq : aappend Tryz.prog _ _ _ _ = q at hx
      obtain ⟨x2, H5, rfl, hac5, -, -, -⟩ := app_rows hq el24 zero9 by9 int24 (sz := 1) rfl (by omega) hac4 (m := 1) rfl (afirst_one _ _ [AV.v (.string s)]) rfl (by omega) (by omega)
      clear hq
      (subst hx; have hF := hp0; have hc := trivial; repeat' (first | refine rR ?_ | refine rG ?_ ?_ <;> intro hc | refine rZ ?_ | fail))
      (have hF := hp0; have hc := trivial; repeat' (first | refine wK ?_ | refine wX ?_ | refine rR ?_ | refine rB ?_ ?_ <;> intro ht <;> try simp only [bbs] at ht | refine rG ?_ ?_ <;> intro hc | refine rZ ?_ | refine wQ ?_))
      all_goals try exact False.elim kk
      refine fin _ _ (l ++ [s]) _ (by rw [List.map_append]; exact hac5) (by simp; omega) (fun z hz => ?_)
      rcases List.mem_append.1 hz with hz | hz
      · exact hl20 z hz
      · simp only [List.mem_singleton] at hz; subst hz; omega
    by_cases w1 : v = 1
    · subst w1
      (have hF := hp0; have hc := trivial; repeat' ((fail_if_success (first | refine wAt 8 ?_ | refine wAtL 8 ?_)); first | refine wK ?_ | refine wX ?_ | refine rR ?_ | refine rB ?_ ?_ <;> intro ht <;> try simp only [bbs] at ht | refine rG ?_ ?_ <;> intro hc | refine rZ ?_ | refine wQ ?_))
      all_goals try exact False.elim kk
      have hF := hp0; have hc := trivial; (try refine wX ?_); refine rN (fun xx hx => ?_); generalize hq : call Tryz.prog cfg0 0 _ _ _ = q at hx
      obtain ⟨n, H4, rfl, y1, S4, F4, G4⟩ := d_Pick [6, 7] (by simp) hco S3 (by omega) hq
      clear hq
      have hac4 : RAcc H4 x 1 (l.map txcell) l.length := hac3.keep F4.1 fun p hp ho => F4.2 p hp (fun e => ho (e ▸ hx0))
      simp only [List.mem_cons, List.not_mem_nil, or_false] at y1
      (subst hx; have hF := hp0; have hc := trivial; repeat' (first | refine rR ?_ | refine rG ?_ ?_ <;> intro hc | refine rZ ?_ | fail))
      (have hF := hp0; have hc := trivial; repeat' (first | refine wK ?_ | refine wX ?_ | refine rR ?_ | refine rB ?_ ?_ <;> intro ht <;> try simp only [bbs] at ht | refine rG ?_ ?_ <;> intro hc | refine rZ ?_ | refine wQ ?_))
      refine wLoop (fun k s => ∃ (j : Nat) (y : AV) (m : List ByteArray), j + k = 10 ∧ s.1 4 = y ∧ s.1 6 = .v (.int .i64 n) ∧ (RAcc s.2 y 1 (m.map txcell) m.length) ∧ (m.length ≤ 3 + j ∧ m.length ≤ 7 ∧ j ≤ m.length) ∧ (∀ s ∈ m, s.size ≤ 1000)) (fun k s hI => ?_) (10) _ ?_
      · obtain ⟨e, H⟩ := s
        obtain ⟨j, y, m, hj, h4, h6, hr, hml, hms⟩ := hI
        simp only at h4 h6 hr hml hms
        have hlen := hr.len
        by_cases hlt : ((m.length : Nat) : Int) < n
        · (have hF := an hp0 <| an h4 <| an h6 <| an hlen <| hlt; have hc := trivial; repeat' ((fail_if_success (first | refine wAt 10 ?_ | refine wAtL 10 ?_)); first | refine wK ?_ | refine wX ?_ | refine rR ?_ | refine rB ?_ ?_ <;> intro ht <;> try simp only [bbs] at ht | refine rG ?_ ?_ <;> intro hc | refine rZ ?_ | refine wQ ?_))
          all_goals try exact False.elim kk
          have hF := an hp0 <| h4; have hc := trivial; (try refine wX ?_); refine rN (fun xx hx => ?_); generalize hq : aappend Tryz.prog _ _ _ _ = q at hx
          obtain ⟨x2, H5, rfl, hac5, -, -, -⟩ := app_rows hq el24 zero9 by9 int24 (sz := 1) rfl (by omega) hr (m := 1) rfl (afirst_one _ _ [AV.v (.string ⟨#[97]⟩)]) rfl (by omega) (by omega)
          clear hq
          (subst hx; have hF := hp0; have hc := trivial; repeat' (first | refine rR ?_ | refine rG ?_ ?_ <;> intro hc | refine rZ ?_ | fail))
          (have hF := hp0; have hc := trivial; repeat' (first | refine wK ?_ | refine wX ?_ | refine rR ?_ | refine rB ?_ ?_ <;> intro ht <;> try simp only [bbs] at ht | refine rG ?_ ?_ <;> intro hc | refine rZ ?_ | refine wQ ?_))
          all_goals try exact False.elim kk
          have hlen1 : (m ++ [(⟨#[97]⟩ : ByteArray)]).length = m.length + 1 := by simp
          have hS := an h4 <| h6; refine ⟨_, Nat.sub_lt (by omega) Nat.one_pos, j + 1, x2, (m ++ [(⟨#[97]⟩ : ByteArray)]), by omega, sl, sl, ?_⟩
          refine ⟨by rw [hlen1, List.map_append]; exact hac5, by rw [hlen1]; omega, fun z hz => ?_⟩
          rcases List.mem_append.1 hz with hz | hz
          · exact hms z hz
          · simp only [List.mem_singleton] at hz; subst hz; decide
        · (have hF := an hp0 <| an h4 <| an h6 <| an hlen <| hlt; have hc := trivial; repeat' (first | refine wK ?_ | refine wX ?_ | refine rR ?_ | refine rB ?_ ?_ <;> intro ht <;> try simp only [bbs] at ht | refine rG ?_ ?_ <;> intro hc | refine rZ ?_ | refine wQ ?_))
          all_goals try exact False.elim kk
          all_goals exact fin _ _ m _ hr (by omega) hms
      · refine ⟨0, x, l, by omega, rfl, rfl, ?_⟩
        exact ⟨hac4, by omega, hl20⟩
    · (have hF := an hp0 <| an w0 <| w1; have hc := trivial; repeat' (first | refine wK ?_ | refine wX ?_ | refine rR ?_ | refine rB ?_ ?_ <;> intro ht <;> try simp only [bbs] at ht | refine rG ?_ ?_ <;> intro hc | refine rZ ?_ | refine wQ ?_))
      all_goals try exact False.elim kk
      all_goals exact fin _ _ l _ hac3 (by omega) hl20
  obtain ⟨v, cl, ⟨l, hl, rfl⟩, hp⟩ := key
  exact ⟨l, hl, fun H => call_fz Tryz.func25 rfl ok_DrawEN rfl (by simp only [fz_cons, fz_nil, go_sem, and_self]) hp H⟩
end
end
end Go.Proofs.YtnejoidfbgklbaaGreatDoor
namespace Go.Proofs.YtnejoidfbgklbaaGreatDoor
open Go Go.RowKit Go.Proofs.YtnejoidfbgklbaaGreatDoor.Eng
set_option linter.unusedSimpArgs false
set_option linter.unusedVariables false
set_option maxRecDepth 100000
set_option maxHeartbeats 2000000
noncomputable section
section
variable {code : List Int}
theorem Fr.at {b p : Nat} {H K : Hp} {c : Option (List AV)} (f : Fr b H K) (h : H.h p = c) (hp : p < H.g) (hne : p ≠ b) : K.h p = c := (f.2 p hp hne).trans h
theorem d_qT {x : AV} {l : List ByteArray} {H : Hp} (hx : deep H 11 x = some (textsL l)) (i t : Int) : deep H depthD (.agg [.v (.int .i64 i), x, .v (.int .i64 t)]) = some (.agg [.v (.int .i64 i), textsL l, .v (.int .i64 t)]) :=
  deep_aggL (n := 11) (mapM_c rfl (mapM_c hx (mapM_c rfl mapM_n)))
theorem deep_tL (l : List ByteArray) (H : Hp) : deep H 11 (textsL l) = some (textsL l) := (fz_rows (n := 10) (fun s x hx => by simp only [List.mem_singleton] at hx; subst hx; exact Fz.string _ _) l : Fz 11 (textsL l)).1 H
theorem ok_DrawPQ : fnOk Tryz.prog cfg0 5 Tryz.f5 = true := by kernel_rfl
theorem c_DrawPQ (hco : CodeOk code) : ∃ (i t : Int) (l : List ByteArray), (l.length ≤ 10 ∧ ∀ s ∈ l, s.size ≤ 1000) ∧ ∀ H, call Tryz.prog cfg0 0 5 [bytesL code] H = some (.agg [.v (.int .i64 i), textsL l, .v (.int .i64 t)], H) := by
  have key : ∃ v cl, (∃ (i t : Int) (l : List ByteArray), (l.length ≤ 10 ∧ ∀ s ∈ l, s.size ≤ 1000) ∧ v = .agg [.v (.int .i64 i), textsL l, .v (.int .i64 t)]) ∧ pure Tryz.prog cfg0 5 Tryz.f5 [bytesL code] = some (v, cl) := by
    refine pure_ex (rs := [.cell 2 26]) rfl rfl ?_
    have hp0 : ∀ b, cfg0.pol 5 b = 0 := fun b => rfl
    obtain ⟨le, hle, hEN⟩ := c_DrawEN hco
    have te := tx_ok le
    (have hF := an hp0 <| (d_Source code); have hc := trivial; repeat' ((fail_if_success (first | refine wAt 2 ?_ | refine wAtL 2 ?_)); first | refine wK ?_ | refine wX ?_ | refine rR ?_ | refine rB ?_ ?_ <;> intro ht <;> try simp only [bbs] at ht | refine rG ?_ ?_ <;> intro hc | refine rZ ?_ | refine wQ ?_))
    have hF := hp0; have hc := trivial; (try refine wX ?_); refine rN (fun xx hx => ?_); generalize hq : call Tryz.prog cfg0 0 22 _ _ = q at hx
    obtain ⟨i, t, l, H1, rfl, hi, htt, hl, S1, F1⟩ := d_10DQ hco (b := 1) (a := 0) (H := (Hp.nil.new [.v (.int .i64 0), .v (.slice none 0 0), .v (.int .i64 0)]).new [bytesL code, .v (.int .i64 ((0 : Nat) : Int))]) ⟨new_same _ _, by simp⟩ (by omega) hq
    clear hq
    obtain ⟨hlo, hl3⟩ := some_ok l hl
    have hl20 : ∀ s ∈ l, s.size ≤ 1000 := fun s hs => by have := lab_size (hlo.2 s hs); omega
    have tt := tT_ok l
    have hg1 : 2 ≤ H1.g := F1.1
    have k0 : H1.h 0 = some [.v (.int .i64 0), .v (.slice none 0 0), .v (.int .i64 0)] := (F1.2 0 (by show 0 < 2; omega) (by omega)).trans rfl
    have n0 : (0 = H1.g) = False := eq_false (by omega)
    have n1 : (1 = H1.g) = False := eq_false (by omega)
    (subst hx; have hF := an hp0 <| an tt.1 <| tt.2; have hc := trivial; repeat' (first | refine rR ?_ | refine rG ?_ ?_ <;> intro hc | refine rZ ?_ | fail))
    (have hF := hp0; have hc := trivial; repeat' ((fail_if_success (first | refine wAt 3 ?_ | refine wAtL 3 ?_)); first | refine wK ?_ | refine wX ?_ | refine rR ?_ | refine rB ?_ ?_ <;> intro ht <;> try simp only [bbs] at ht | refine rG ?_ ?_ <;> intro hc | refine rZ ?_ | refine wQ ?_))
    have hF := hp0; have hc := trivial; (try refine wX ?_); refine rN (fun xx hx => ?_); generalize hq : call Tryz.prog cfg0 0 _ _ _ = q at hx
    have S1' : Src ((H1.new [.v (.int .i64 0), .v (.slice none 0 0), .v (.int .i64 0)]).set H1.g [.v (.int .i64 i), textsT l, .v (.int .i64 t)]) 1 code 3 := S1.ext (by simp) (by rw [Hp.set_h, if_neg (by omega), Hp.new_h, if_neg (by omega)])
    obtain ⟨v, H2, rfl, v1, S2, F2, G2⟩ := d_Next hco S1' (by omega) (by omega) hq
    clear hq
    have g2 : H2.g = H1.g + 1 := G2
    have b2 : H2.h H1.g = some [.v (.int .i64 i), textsT l, .v (.int .i64 t)] := (F2.2 H1.g (by simp) (by omega)).trans (by rw [Hp.set_h, if_pos rfl])
    have z2 : H2.h 0 = some [.v (.int .i64 0), .v (.slice none 0 0), .v (.int .i64 0)] := (F2.2 0 (by simp) (by omega)).trans (by rw [Hp.set_h, if_neg (by omega), Hp.new_h, if_neg (by omega)]; exact k0)
    have n3 : (H1.g = 0) = False := eq_false (by omega)
    (subst hx; have hF := hp0; have hc := trivial; repeat' (first | refine rR ?_ | refine rG ?_ ?_ <;> intro hc | refine rZ ?_ | fail))
    have fin : ∀ (K : Hp) (y : AV) (m : List ByteArray) (i t : Int), deep K 11 y = some (textsL m) → m.length ≤ 10 → (∀ s ∈ m, s.size ≤ 1000) → ∃ v cl, (∃ (i t : Int) (l : List ByteArray), (l.length ≤ 10 ∧ ∀ s ∈ l, s.size ≤ 1000) ∧ v = .agg [.v (.int .i64 i), textsL l, .v (.int .i64 t)]) ∧ Gives v cl (.agg [.v (.int .i64 i), y, .v (.int .i64 t)]) K := fun K y m i t hd h1 h2 => ⟨_, _, ⟨i, t, m, ⟨h1, h2⟩, rfl⟩, d_qT hd i t, rfl⟩
    by_cases w0 : v = 0
    · subst w0
      (have hF := hp0; have hc := trivial; repeat' ((fail_if_success (first | refine wAt 5 ?_ | refine wAtL 5 ?_)); first | refine wK ?_ | refine wX ?_ | refine rR ?_ | refine rB ?_ ?_ <;> intro ht <;> try simp only [bbs] at ht | refine rG ?_ ?_ <;> intro hc | refine rZ ?_ | refine wQ ?_))
      all_goals try exact False.elim kk
      have hF := hp0; have hc := trivial; (try refine wX ?_); refine rN (fun xx hx => ?_); generalize hq : call Tryz.prog cfg0 0 _ _ _ = q at hx
      obtain ⟨n, H3, rfl, -, S3, F3, G3⟩ := d_Pick [-1, 65536] (by simp) hco S2 (by omega) hq
      clear hq
      have b3 := F3.at b2 (by omega) (by omega)
      have z3 := F3.at z2 (by omega) (by omega)
      (subst hx; have hF := an hp0 <| b3; have hc := trivial; repeat' (first | refine rR ?_ | refine rG ?_ ?_ <;> intro hc | refine rZ ?_ | fail))
      (have hF := an hp0 <| an z3 <| an n0 <| an n3 <| an tt.1 <| an tt.2 <| b3; have hc := trivial; repeat' (first | refine wK ?_ | refine wX ?_ | refine rR ?_ | refine rB ?_ ?_ <;> intro ht <;> try simp only [bbs] at ht | refine rG ?_ ?_ <;> intro hc | refine rZ ?_ | refine wQ ?_))
      all_goals try exact False.elim kk
      all_goals exact fin _ _ l _ _ (deep_tT l 9 _) (by omega) hl20
    by_cases w1 : v = 1
    · subst w1
      (have hF := hp0; have hc := trivial; repeat' ((fail_if_success (first | refine wAt 7 ?_ | refine wAtL 7 ?_)); first | refine wK ?_ | refine wX ?_ | refine rR ?_ | refine rB ?_ ?_ <;> intro ht <;> try simp only [bbs] at ht | refine rG ?_ ?_ <;> intro hc | refine rZ ?_ | refine wQ ?_))
      all_goals try exact False.elim kk
      have hF := hp0; have hc := trivial; (try refine wX ?_); refine rN (fun xx hx => ?_); generalize hq : call Tryz.prog cfg0 0 _ _ _ = q at hx
      obtain ⟨n, H3, rfl, -, S3, F3, G3⟩ := d_Pick [-1, 65536, 65535] (by simp) hco S2 (by omega) hq
      clear hq
      have b3 := F3.at b2 (by omega) (by omega)
      have z3 := F3.at z2 (by omega) (by omega)
      (subst hx; have hF := an hp0 <| b3; have hc := trivial; repeat' (first | refine rR ?_ | refine rG ?_ ?_ <;> intro hc | refine rZ ?_ | fail))
      (have hF := an hp0 <| an z3 <| an n0 <| an n3 <| an tt.1 <| an tt.2 <| b3; have hc := trivial; repeat' (first | refine wK ?_ | refine wX ?_ | refine rR ?_ | refine rB ?_ ?_ <;> intro ht <;> try simp only [bbs] at ht | refine rG ?_ ?_ <;> intro hc | refine rZ ?_ | refine wQ ?_))
      all_goals try exact False.elim kk
      all_goals exact fin _ _ l _ _ (deep_tT l 9 _) (by omega) hl20
    by_cases w2 : v = 2
    · subst w2
      (have hF := an hp0 <| an b2 <| an z2 <| an n0 <| an n3 <| an hEN <| an te.1 <| te.2; have hc := trivial; repeat' (first | refine wK ?_ | refine wX ?_ | refine rR ?_ | refine rB ?_ ?_ <;> intro ht <;> try simp only [bbs] at ht | refine rG ?_ ?_ <;> intro hc | refine rZ ?_ | refine wQ ?_))
      all_goals try exact False.elim kk
      all_goals exact fin _ _ le _ _ (deep_tL le _) hle.1 hle.2
    · (have hF := an hp0 <| an w0 <| an w1 <| an w2 <| an b2 <| an z2 <| an n0 <| an n3 <| an tt.1 <| tt.2; have hc := trivial; repeat' (first | refine wK ?_ | refine wX ?_ | refine rR ?_ | refine rB ?_ ?_ <;> intro ht <;> try simp only [bbs] at ht | refine rG ?_ ?_ <;> intro hc | refine rZ ?_ | refine wQ ?_))
      all_goals try exact False.elim kk
      all_goals exact fin _ _ l _ _ (deep_tT l 9 _) (by omega) hl20
  obtain ⟨v, cl, ⟨i, t, l, hl, rfl⟩, hp⟩ := key
  exact ⟨i, t, l, hl, fun H => call_fz Tryz.func5 rfl ok_DrawPQ rfl (by simp only [fz_cons, fz_nil, go_sem, and_self]) hp H⟩
end
end
end Go.Proofs.YtnejoidfbgklbaaGreatDoor
namespace Go.Proofs.YtnejoidfbgklbaaGreatDoor
open Go Go.RowKit Go.Proofs.YtnejoidfbgklbaaGreatDoor.Eng
set_option linter.unusedSimpArgs false
set_option linter.unusedVariables false
set_option maxRecDepth 100000
set_option maxHeartbeats 2000000
noncomputable section
/-- Bytes at the head of an own block. -/
def SlB (H : Hp) (x : AV) (l : List Int) : Prop := ∃ p cs, x = .sl p 1 0 l.length ∧ H.h p = some cs ∧ cs.take l.length = l.map cell
theorem SlB.deep {H : Hp} {x : AV} {l : List Int} (h : SlB H x l) (n : Nat) : Eng.deep H (n + 2) x = some (bytesL l) := by
  obtain ⟨p, cs, rfl, h1, h2⟩ := h
  have hl : l.length ≤ cs.length := by have := congrArg List.length h2; simp at this; omega
  have h3 : (l.map cell).mapM (Eng.deep H (n + 1)) = some (l.map cell) := mapM_self fun x hx => by
    obtain ⟨z, -, rfl⟩ := List.mem_map.1 hx; rfl
  show ((H.h p).bind fun cs => if 0 + l.length * 1 ≤ cs.length ∧ 0 < 1 then (((cs.drop 0).take (l.length * 1)).mapM (Eng.deep H (n + 1))).map fun ds => AV.lst false (chunk 1 l.length ds) else none) = _
  simp only [h1, Option.bind_some, List.drop_zero, Nat.mul_one, h2, h3, Option.map_some]
  rw [if_pos ⟨by omega, by omega⟩]
  have := chunk_flat 1 (l.map fun z => [cell z]) (fun c hc => by obtain ⟨z, -, rfl⟩ := List.mem_map.1 hc; rfl)
  rw [cells_flat, List.length_map] at this
  rw [this]; rfl
theorem SlB.ofRAcc {H : Hp} {x : AV} {l : List Int} {n : Nat} (h : RAcc H x 1 (l.map cell) n) (m : Nat) : Eng.deep H (m + 2) x = some (bytesL l) := by
  have hn : n = l.length := by have := h.1; simpa using this.symm
  subst hn
  rcases h.2 with ⟨h0, e⟩ | ⟨b, -, rfl, hb⟩
  · have e0 : l = [] := List.length_eq_zero_iff.1 h0
    subst e0
    rcases e with rfl | rfl <;> rfl
  · exact SlB.deep ⟨b, _, rfl, hb, by rw [List.take_of_length_le (by simp)]⟩ m
theorem slB_set {l : List Int} (hb : Eng.Bytes l) (K : Hp) (p i : Nat) (t : Int) : ∃ l', Eng.Bytes l' ∧ l'.length ≤ l.length + 1 ∧ SlB (K.set p ((l.map cell).set i (AV.v (.int .u8 (IntKind.wrap .u8 t))))) (.sl p 1 0 l.length) l' := by
  refine ⟨l.set i (IntKind.wrap .u8 t), fun z hz => ?_, by simp, p, _, by rw [List.length_set], if_pos rfl, ?_⟩
  · rcases List.mem_or_eq_of_mem_set hz with hz | rfl
    · exact hb z hz
    · rw [wrap8]; omega
  · rw [List.length_set, List.take_of_length_le (by simp), List.map_set]
    rfl
theorem racc_alen {H : Hp} {x : AV} {cs : List AV} {n : Nat} (h : RAcc H x 1 cs n) : alen x = some n := by
  rcases h.2 with ⟨rfl, rfl | rfl⟩ | ⟨b, -, rfl, -⟩ <;> rfl
theorem racc_first {H : Hp} {x : AV} {cs : List AV} {n : Nat} (h : RAcc H x 1 cs n) : afirst H 1 n x = some cs := by
  have hl := h.1
  rcases h.2 with ⟨rfl, e⟩ | ⟨b, -, rfl, hb⟩
  · have e0 : cs = [] := List.length_eq_zero_iff.1 (by simpa using hl)
    subst e0
    rcases e with rfl | rfl <;> rfl
  · simp only [afirst, true_and, Nat.le_refl, if_true, hb, Option.bind_some, Nat.zero_add, List.drop_zero]
    rw [if_pos (by omega), ← hl, List.take_length]
theorem pack_bytes (i t : Int) (ls : List ByteArray) : Eng.Bytes (packB i ls t) := by
  unfold packB
  refine bytes_app (bytes_app (bytes_app (bytes_app (wordL_bytes _ _) fun z hz => ?_) (encN_bytes ls)) (wordL_bytes _ _)) fun z hz => ?_
  · simp only [List.mem_cons, List.not_mem_nil, or_false] at hz; omega
  · simp only [List.mem_cons, List.not_mem_nil, or_false] at hz; omega
section
variable {code : List Int}
theorem ok_DrawRQ : fnOk Tryz.prog cfg0 7 Tryz.f7 = true := by kernel_rfl
theorem c_DrawRQ (hco : CodeOk code) : ∃ l : List Int, (Eng.Bytes l ∧ l.length ≤ 1000) ∧ ∀ H, call Tryz.prog cfg0 0 7 [bytesL code] H = some (bytesL l, H) := by
  have key : ∃ v cl, (∃ l : List Int, (Eng.Bytes l ∧ l.length ≤ 1000) ∧ v = bytesL l) ∧ pure Tryz.prog cfg0 7 Tryz.f7 [bytesL code] = some (v, cl) := by
    refine pure_ex (rs := [.tmp 2]) rfl rfl ?_
    have hp0 : ∀ b, cfg0.pol 7 b = (if b = 10 then 1 else if b = 20 then 2 else if b = 21 then 2 else if b = 1000000 then 2 else 0) := fun b => rfl
    repeat' ((fail_if_success (first | refine wAt 2 ?_)); first | ((first | refine wSeqr ?_ | refine wSeqrF ?_ | refine wIf ?_ | refine wReg ?_ | refine wRegF ?_ | (refine wRet ?_; (try simp only [thenQ, blockQ]); refine ends_by ?_)); intro xx hx; have hc := trivial; (repeat' (simp only [hc, Nat.reduceBEq, go_sem, Nat.reduceAdd, Nat.reduceMul, Nat.reduceSub, Nat.reduceEqDiff, Nat.reduceLT, Nat.reduceLeDiff, Int.reduceEq, Int.reduceLT, Int.reduceLE, reduceIte, aresults, aresult, hp0, d_Source code] at hx; (try ((first | rw [guardL_if] at hx | rw [guardF_if] at hx); split at hx <;> rename_i hc)))); all_goals (subst hx; first | (refine ⟨_, rfl, fun ht => ?_, fun ht => ?_⟩ <;> (try simp only [bbs] at ht)) | (refine ⟨_, rfl, ?_⟩; (try simp only [tupOf])))) | refine wSkip ?_ | (refine wExit ?_; simp only [thenQ, blockQ, reduceIte, Nat.reduceEqDiff]) | refine wSeq ?_ | refine wBlock ?_)
    (first | refine wSeqr ?_ | refine wSeqrF ?_ | refine wReg ?_ | refine wRegF ?_); intro xx hx; have hc := trivial; (repeat' (simp only [hc, Nat.reduceBEq, go_sem, Nat.reduceAdd, Nat.reduceMul, Nat.reduceSub, Nat.reduceEqDiff, Nat.reduceLT, Nat.reduceLeDiff, Int.reduceEq, Int.reduceLT, Int.reduceLE, reduceIte, aresults, aresult, hp0] at hx; (try ((first | rw [guardL_if] at hx | rw [guardF_if] at hx); split at hx <;> rename_i hc)))); generalize hq : call Tryz.prog cfg0 0 22 _ _ = q at hx
    obtain ⟨i, t, ls, H1, rfl, hi, htt, hl, S1, F1⟩ := d_10DQ hco (b := 0) (a := 0) (H := Hp.nil.new [bytesL code, .v (.int .i64 ((0 : Nat) : Int))]) ⟨new_same _ _, by simp⟩ (by omega) hq
    clear hq
    obtain ⟨hlo, hl3⟩ := some_ok ls hl
    have tt := tT_ok ls
    have hg1 : 1 ≤ H1.g := F1.1
    have n0 : (0 = H1.g) = False := eq_false (by omega)
    have hel := encN_len hlo
    have hpl : (packB i ls t).length = 12 + (encN ls).length + 4 := (pack_read hlo).2
    have hne : packB i ls t ≠ [] := fun e => by rw [e] at hpl; simp at hpl
    have hbb := pack_bytes i t ls
    have hdq : call Tryz.prog cfg0 1 31 [.ptr H1.g 0] ((H1.new [.v (.int .i64 0), .v (.slice none 0 0), .v (.int .i64 0)]).set H1.g [.v (.int .i64 i), textsT ls, .v (.int .i64 t)]) = some (.sl (H1.g + 1) 1 0 (packB i ls t).length, ((H1.new [.v (.int .i64 0), .v (.slice none 0 0), .v (.int .i64 0)]).set H1.g [.v (.int .i64 i), textsT ls, .v (.int .i64 t)]).new ((packB i ls t).map cell)) := by
      rw [call_ofO Tryz.func31 rfl ok_sl10Query rfl (mapM_c (deep_ptrD (n := 11) (show ((H1.new [.v (.int .i64 0), .v (.slice none 0 0), .v (.int .i64 0)]).set H1.g [.v (.int .i64 i), textsT ls, .v (.int .i64 t)]).h H1.g = some [.v (.int .i64 i), textsT ls, .v (.int .i64 t)] by rw [Hp.set_h, if_pos rfl]) (mapM_c rfl (mapM_c (deep_tT ls 9 _) (mapM_c rfl mapM_n)))) mapM_n) (pq_sl10Query i t ls hi htt hlo).2]
      exact mat_bytes 10 _ hne _
    have hc := trivial; (repeat' (simp only [hc, Nat.reduceBEq, go_sem, Nat.reduceAdd, Nat.reduceMul, Nat.reduceSub, Nat.reduceEqDiff, Nat.reduceLT, Nat.reduceLeDiff, Int.reduceEq, Int.reduceLT, Int.reduceLE, reduceIte, aresults, aresult, hp0, tt.1, tt.2] at hx; (try ((first | rw [guardL_if] at hx | rw [guardF_if] at hx); split at hx <;> rename_i hc)))); all_goals (subst hx; refine ⟨_, rfl, ?_⟩)
    repeat' ((fail_if_success (first | refine wAt 4 ?_)); first | ((first | refine wSeqr ?_ | refine wSeqrF ?_ | refine wIf ?_ | refine wReg ?_ | refine wRegF ?_ | (refine wRet ?_; (try simp only [thenQ, blockQ]); refine ends_by ?_)); intro xx hx; have hc := trivial; (repeat' (simp only [hc, Nat.reduceBEq, go_sem, Nat.reduceAdd, Nat.reduceMul, Nat.reduceSub, Nat.reduceEqDiff, Nat.reduceLT, Nat.reduceLeDiff, Int.reduceEq, Int.reduceLT, Int.reduceLE, reduceIte, aresults, aresult, hp0, hdq] at hx; (try ((first | rw [guardL_if] at hx | rw [guardF_if] at hx); split at hx <;> rename_i hc)))); all_goals (subst hx; first | (refine ⟨_, rfl, fun ht => ?_, fun ht => ?_⟩ <;> (try simp only [bbs] at ht)) | (refine ⟨_, rfl, ?_⟩; (try simp only [tupOf])))) | refine wSkip ?_ | (refine wExit ?_; simp only [thenQ, blockQ, reduceIte, Nat.reduceEqDiff]) | refine wSeq ?_ | refine wBlock ?_)
    have S2 : Src (((H1.new [.v (.int .i64 0), .v (.slice none 0 0), .v (.int .i64 0)]).set H1.g [.v (.int .i64 i), textsT ls, .v (.int .i64 t)]).new ((packB i ls t).map cell)) 0 code 3 := S1.ext (by simp <;> omega) (by rw [Hp.new_h, if_neg (by simp <;> omega), Hp.set_h, if_neg (by omega), Hp.new_h, if_neg (by omega)])
    have hp : (((H1.new [.v (.int .i64 0), .v (.slice none 0 0), .v (.int .i64 0)]).set H1.g [.v (.int .i64 i), textsT ls, .v (.int .i64 t)]).new ((packB i ls t).map cell)).h (H1.g + 1) = some ((packB i ls t).map cell) := by rw [Hp.new_h, if_pos (by simp)]
    have hpg : H1.g + 1 < (((H1.new [.v (.int .i64 0), .v (.slice none 0 0), .v (.int .i64 0)]).set H1.g [.v (.int .i64 i), textsT ls, .v (.int .i64 t)]).new ((packB i ls t).map cell)).g := by simp
    have hpb : H1.g + 1 ≠ 0 := by omega
    (first | refine wSeqr ?_ | refine wSeqrF ?_ | refine wReg ?_ | refine wRegF ?_); intro xx hx; have hc := trivial; (repeat' (simp only [hc, Nat.reduceBEq, go_sem, Nat.reduceAdd, Nat.reduceMul, Nat.reduceSub, Nat.reduceEqDiff, Nat.reduceLT, Nat.reduceLeDiff, Int.reduceEq, Int.reduceLT, Int.reduceLE, reduceIte, aresults, aresult, hp0] at hx; (try ((first | rw [guardL_if] at hx | rw [guardF_if] at hx); split at hx <;> rename_i hc)))); generalize hq : call Tryz.prog cfg0 0 _ _ _ = q at hx
    generalize ((H1.new [.v (.int .i64 0), .v (.slice none 0 0), .v (.int .i64 0)]).set H1.g [.v (.int .i64 i), textsT ls, .v (.int .i64 t)]).new ((packB i ls t).map cell) = H at *
    generalize H1.g + 1 = p at *
    generalize packB i ls t = l at *
    have hl200 : l.length ≤ 200 := by omega
    have hkeep : ∀ {K : Hp}, Fr 0 H K → K.h p = some (l.map cell) := fun f => (f.2 p hpg hpb).trans hp
    have fin : ∀ (K : Hp) (y : AV) (m : List Int), Eng.Bytes m → m.length ≤ 1000 → SlB K y m → ∃ v cl, (∃ l : List Int, (Eng.Bytes l ∧ l.length ≤ 1000) ∧ v = bytesL l) ∧ Gives v cl y K := fun K y m h1 h2 h3 => ⟨_, _, ⟨m, ⟨h1, h2⟩, rfl⟩, h3.deep 10, rfl⟩
    obtain ⟨v, H2, rfl, v1, S3, F2, G2⟩ := d_Next hco S2 (by omega) (by omega) hq
    clear hq
    have v2 := v1.2.1 (by omega)
    have k1 := hkeep F2
    have hc := trivial; (repeat' (simp only [hc, Nat.reduceBEq, go_sem, Nat.reduceAdd, Nat.reduceMul, Nat.reduceSub, Nat.reduceEqDiff, Nat.reduceLT, Nat.reduceLeDiff, Int.reduceEq, Int.reduceLT, Int.reduceLE, reduceIte, aresults, aresult, hp0] at hx; (try ((first | rw [guardL_if] at hx | rw [guardF_if] at hx); split at hx <;> rename_i hc)))); all_goals (subst hx; refine ⟨_, rfl, ?_⟩)
    by_cases w0 : v = 0
    · subst w0
      repeat' ((fail_if_success (first | refine wAt 6 ?_)); first | ((first | refine wSeqr ?_ | refine wSeqrF ?_ | refine wIf ?_ | refine wReg ?_ | refine wRegF ?_ | (refine wRet ?_; (try simp only [thenQ, blockQ]); refine ends_by ?_)); intro xx hx; have hc := trivial; (repeat' (simp only [hc, Nat.reduceBEq, go_sem, Nat.reduceAdd, Nat.reduceMul, Nat.reduceSub, Nat.reduceEqDiff, Nat.reduceLT, Nat.reduceLeDiff, Int.reduceEq, Int.reduceLT, Int.reduceLE, reduceIte, aresults, aresult, hp0] at hx; (try ((first | rw [guardL_if] at hx | rw [guardF_if] at hx); split at hx <;> rename_i hc)))); all_goals (subst hx; first | (refine ⟨_, rfl, fun ht => ?_, fun ht => ?_⟩ <;> (try simp only [bbs] at ht)) | (refine ⟨_, rfl, ?_⟩; (try simp only [tupOf])))) | refine wSkip ?_ | (refine wExit ?_; simp only [thenQ, blockQ, reduceIte, Nat.reduceEqDiff]) | refine wSeq ?_ | refine wBlock ?_)
      all_goals try exact False.elim kk
      refine wRegN 13 (Hp.one p (l.map cell)) (hExt_one k1) (fun xx hx => ?_)
      have hc := trivial; (repeat' (simp only [hc, Nat.reduceBEq, go_sem, Nat.reduceAdd, Nat.reduceMul, Nat.reduceSub, Nat.reduceEqDiff, Nat.reduceLT, Nat.reduceLeDiff, Int.reduceEq, Int.reduceLT, Int.reduceLE, reduceIte, aresults, aresult, hp0] at hx; (try ((first | rw [guardL_if] at hx | rw [guardF_if] at hx); split at hx <;> rename_i hc)))); generalize hq : call Tryz.prog cfg0 0 _ _ _ = q at hx
      obtain ⟨v, H3, rfl, y1, S4, F3, G3⟩ := d_Next hco S3 (by omega) (by omega) hq
      clear hq
      have y2 := y1.2.1 (by omega)
      have k2 := hkeep (F2.trans F3)
      obtain ⟨z, hz, -, hm⟩ := at_drop (l := l) (j := v.toNat) (by omega)
      have z8 := hbb z hm
      have hz' : (l.map cell)[v.toNat]? = some (cell z) := by rw [List.getElem?_map, hz]; rfl
      have hnat : natOf (.v (.int .i64 v)) = some v.toNat := by simp only [natOf]; rw [if_pos y1.1]
      have hvl : v.toNat < l.length := by omega
      have hc := trivial; (repeat' (simp only [hc, Nat.reduceBEq, go_sem, Nat.reduceAdd, Nat.reduceMul, Nat.reduceSub, Nat.reduceEqDiff, Nat.reduceLT, Nat.reduceLeDiff, Int.reduceEq, Int.reduceLT, Int.reduceLE, reduceIte, aresults, aresult, hp0, k1, k2, hz', hnat, hvl, one_h, Option.isSome_some] at hx; (try ((first | rw [guardL_if] at hx | rw [guardF_if] at hx); split at hx <;> rename_i hc)))); generalize hq : call Tryz.prog cfg0 0 _ _ _ = q at hx
      obtain ⟨v', H4, rfl, y3, S5, F4, G4⟩ := d_Next hco S4 (by omega) (by omega) hq
      clear hq
      have y4 := y3.2.1 (by omega)
      have k3 := hkeep ((F2.trans F3).trans F4)
      have w3 : IntKind.wrap .i64 (1 + v') = 1 + v' := wrap_i64 (by omega) (by omega)
      have w8 : IntKind.wrap .u8 (1 + v') = 1 + v' := wrap_u8 (by omega) (by omega)
      have hvl2 : v.toNat + 1 ≤ (l.map cell).length := by rw [List.length_map]; omega
      have hc := trivial; (repeat' (simp only [hc, Nat.reduceBEq, go_sem, Nat.reduceAdd, Nat.reduceMul, Nat.reduceSub, Nat.reduceEqDiff, Nat.reduceLT, Nat.reduceLeDiff, Int.reduceEq, Int.reduceLT, Int.reduceLE, reduceIte, aresults, aresult, hp0, k1, k2, k3, hz', hnat, hvl, hvl2, one_h, Option.isSome_some, cell, w3, w8, aconv_int u2 u5] at hx; (try ((first | rw [guardL_if] at hx | rw [guardF_if] at hx); split at hx <;> rename_i hc)))); all_goals (subst hx; refine ⟨_, rfl, ?_⟩)
      repeat' (first | ((first | refine wSeqr ?_ | refine wSeqrF ?_ | refine wIf ?_ | refine wReg ?_ | refine wRegF ?_ | (refine wRet ?_; (try simp only [thenQ, blockQ]); refine ends_by ?_)); intro xx hx; have hc := trivial; (repeat' (simp only [hc, Nat.reduceBEq, go_sem, Nat.reduceAdd, Nat.reduceMul, Nat.reduceSub, Nat.reduceEqDiff, Nat.reduceLT, Nat.reduceLeDiff, Int.reduceEq, Int.reduceLT, Int.reduceLE, reduceIte, aresults, aresult, hp0] at hx; (try ((first | rw [guardL_if] at hx | rw [guardF_if] at hx); split at hx <;> rename_i hc)))); all_goals (subst hx; first | (refine ⟨_, rfl, fun ht => ?_, fun ht => ?_⟩ <;> (try simp only [bbs] at ht)) | (refine ⟨_, rfl, ?_⟩; (try simp only [tupOf])))) | refine wSkip ?_ | (refine wExit ?_; simp only [thenQ, blockQ, reduceIte, Nat.reduceEqDiff]) | refine wSeq ?_ | refine wBlock ?_)
      all_goals try exact False.elim kk
      obtain ⟨l', h1, h2, h3⟩ := slB_set hbb _ _ _ _
      exact fin _ _ l' h1 (by omega) h3
    by_cases w1 : v = 1
    · subst w1
      repeat' ((fail_if_success (first | refine wAt 8 ?_)); first | ((first | refine wSeqr ?_ | refine wSeqrF ?_ | refine wIf ?_ | refine wReg ?_ | refine wRegF ?_ | (refine wRet ?_; (try simp only [thenQ, blockQ]); refine ends_by ?_)); intro xx hx; have hc := trivial; (repeat' (simp only [hc, Nat.reduceBEq, go_sem, Nat.reduceAdd, Nat.reduceMul, Nat.reduceSub, Nat.reduceEqDiff, Nat.reduceLT, Nat.reduceLeDiff, Int.reduceEq, Int.reduceLT, Int.reduceLE, reduceIte, aresults, aresult, hp0] at hx; (try ((first | rw [guardL_if] at hx | rw [guardF_if] at hx); split at hx <;> rename_i hc)))); all_goals (subst hx; first | (refine ⟨_, rfl, fun ht => ?_, fun ht => ?_⟩ <;> (try simp only [bbs] at ht)) | (refine ⟨_, rfl, ?_⟩; (try simp only [tupOf])))) | refine wSkip ?_ | (refine wExit ?_; simp only [thenQ, blockQ, reduceIte, Nat.reduceEqDiff]) | refine wSeq ?_ | refine wBlock ?_)
      all_goals try exact False.elim kk
      (first | refine wSeqr ?_ | refine wSeqrF ?_ | refine wReg ?_ | refine wRegF ?_); intro xx hx; have hc := trivial; (repeat' (simp only [hc, Nat.reduceBEq, go_sem, Nat.reduceAdd, Nat.reduceMul, Nat.reduceSub, Nat.reduceEqDiff, Nat.reduceLT, Nat.reduceLeDiff, Int.reduceEq, Int.reduceLT, Int.reduceLE, reduceIte, aresults, aresult, hp0] at hx; (try ((first | rw [guardL_if] at hx | rw [guardF_if] at hx); split at hx <;> rename_i hc)))); generalize hq : call Tryz.prog cfg0 0 _ _ _ = q at hx
      obtain ⟨v, H3, rfl, y1, S4, F3, G3⟩ := d_Next hco S3 (by omega) (by omega) hq
      clear hq
      have y2 := y1.2.1 (by omega)
      have k2 := hkeep (F2.trans F3)
      have hnat : natOf (.v (.int .i64 v)) = some v.toNat := by simp only [natOf]; rw [if_pos y1.1]
      have hvl : v.toNat ≤ (l.map cell).length := by rw [List.length_map]; omega
      have hvc : (0 ≤ v.toNat ∧ v.toNat ≤ (l.map cell).length) = True := eq_true ⟨Nat.zero_le _, hvl⟩
      have hc := trivial; (repeat' (simp only [hc, Nat.reduceBEq, go_sem, Nat.reduceAdd, Nat.reduceMul, Nat.reduceSub, Nat.reduceEqDiff, Nat.reduceLT, Nat.reduceLeDiff, Int.reduceEq, Int.reduceLT, Int.reduceLE, reduceIte, aresults, aresult, hp0, hnat, k2, slO, hvc, Nat.sub_zero] at hx; (try ((first | rw [guardL_if] at hx | rw [guardF_if] at hx); split at hx <;> rename_i hc)))); all_goals (subst hx; refine ⟨_, rfl, ?_⟩)
      repeat' (first | ((first | refine wSeqr ?_ | refine wSeqrF ?_ | refine wIf ?_ | refine wReg ?_ | refine wRegF ?_ | (refine wRet ?_; (try simp only [thenQ, blockQ]); refine ends_by ?_)); intro xx hx; have hc := trivial; (repeat' (simp only [hc, Nat.reduceBEq, go_sem, Nat.reduceAdd, Nat.reduceMul, Nat.reduceSub, Nat.reduceEqDiff, Nat.reduceLT, Nat.reduceLeDiff, Int.reduceEq, Int.reduceLT, Int.reduceLE, reduceIte, aresults, aresult, hp0] at hx; (try ((first | rw [guardL_if] at hx | rw [guardF_if] at hx); split at hx <;> rename_i hc)))); all_goals (subst hx; first | (refine ⟨_, rfl, fun ht => ?_, fun ht => ?_⟩ <;> (try simp only [bbs] at ht)) | (refine ⟨_, rfl, ?_⟩; (try simp only [tupOf])))) | refine wSkip ?_ | (refine wExit ?_; simp only [thenQ, blockQ, reduceIte, Nat.reduceEqDiff]) | refine wSeq ?_ | refine wBlock ?_)
      all_goals try exact False.elim kk
      refine fin _ _ (l.take v.toNat) (fun z hz => hbb z (List.mem_of_mem_take hz)) (by rw [List.length_take]; omega) ⟨p, _, ?_, k2, ?_⟩
      · rw [List.length_take]; rw [List.length_map] at hvl; rw [Nat.min_eq_left hvl]
      · rw [List.map_take, List.length_take]; rw [List.length_map] at hvl; rw [Nat.min_eq_left hvl]
    by_cases w2 : v = 2
    · subst w2
      repeat' ((fail_if_success (first | refine wAt 10 ?_)); first | ((first | refine wSeqr ?_ | refine wSeqrF ?_ | refine wIf ?_ | refine wReg ?_ | refine wRegF ?_ | (refine wRet ?_; (try simp only [thenQ, blockQ]); refine ends_by ?_)); intro xx hx; have hc := trivial; (repeat' (simp only [hc, Nat.reduceBEq, go_sem, Nat.reduceAdd, Nat.reduceMul, Nat.reduceSub, Nat.reduceEqDiff, Nat.reduceLT, Nat.reduceLeDiff, Int.reduceEq, Int.reduceLT, Int.reduceLE, reduceIte, aresults, aresult, hp0] at hx; (try ((first | rw [guardL_if] at hx | rw [guardF_if] at hx); split at hx <;> rename_i hc)))); all_goals (subst hx; first | (refine ⟨_, rfl, fun ht => ?_, fun ht => ?_⟩ <;> (try simp only [bbs] at ht)) | (refine ⟨_, rfl, ?_⟩; (try simp only [tupOf])))) | refine wSkip ?_ | (refine wExit ?_; simp only [thenQ, blockQ, reduceIte, Nat.reduceEqDiff]) | refine wSeq ?_ | refine wBlock ?_)
      all_goals try exact False.elim kk
      (first | refine wSeqr ?_ | refine wSeqrF ?_ | refine wReg ?_ | refine wRegF ?_); intro xx hx; have hc := trivial; (repeat' (simp only [hc, Nat.reduceBEq, go_sem, Nat.reduceAdd, Nat.reduceMul, Nat.reduceSub, Nat.reduceEqDiff, Nat.reduceLT, Nat.reduceLeDiff, Int.reduceEq, Int.reduceLT, Int.reduceLE, reduceIte, aresults, aresult, hp0] at hx; (try ((first | rw [guardL_if] at hx | rw [guardF_if] at hx); split at hx <;> rename_i hc)))); generalize hq : call Tryz.prog cfg0 0 24 _ _ = q at hx
      obtain ⟨n, H3, rfl, y1, S4, F3, G3⟩ := d_Pick [1, 4, 300] (by simp) hco S3 (by omega) hq
      clear hq
      simp only [List.mem_cons, List.not_mem_nil, or_false] at y1
      have hc := trivial; (repeat' (simp only [hc, Nat.reduceBEq, go_sem, Nat.reduceAdd, Nat.reduceMul, Nat.reduceSub, Nat.reduceEqDiff, Nat.reduceLT, Nat.reduceLeDiff, Int.reduceEq, Int.reduceLT, Int.reduceLE, reduceIte, aresults, aresult, hp0] at hx; (try ((first | rw [guardL_if] at hx | rw [guardF_if] at hx); split at hx <;> rename_i hc)))); generalize hq : call Tryz.prog cfg0 0 32 _ _ = q at hx
      obtain ⟨x, H4, m, rfl, hm1, hm2, hm3, hm4, S5, F4⟩ := d_Some hco S4 n.toNat (by omega) (by omega) (show n = (n.toNat : Int) by omega) hq
      clear hq
      have k3 := hkeep ((F2.trans F3).trans F4)
      have hp4 : p < H4.g := by have := ((F2.trans F3).trans F4).1; omega
      have hc := trivial; (repeat' (simp only [hc, Nat.reduceBEq, go_sem, Nat.reduceAdd, Nat.reduceMul, Nat.reduceSub, Nat.reduceEqDiff, Nat.reduceLT, Nat.reduceLeDiff, Int.reduceEq, Int.reduceLT, Int.reduceLE, reduceIte, aresults, aresult, hp0] at hx; (try ((first | rw [guardL_if] at hx | rw [guardF_if] at hx); split at hx <;> rename_i hc)))); generalize hq : aappend Tryz.prog _ _ _ _ = q at hx
      obtain ⟨x2, H5, rfl, hac5, -, -, -⟩ := app_rows hq el22 zero5 by5 int22 (sz := 1) rfl (by omega) (show RAcc H4 (.sl p 1 0 l.length) 1 (l.map cell) l.length from ⟨by simp, .inr ⟨p, hp4, rfl, k3⟩⟩) (racc_alen hm3) (racc_first hm3) (by simp [hm2]) (by omega) (by omega)
      clear hq
      have hc := trivial; (repeat' (simp only [hc, Nat.reduceBEq, go_sem, Nat.reduceAdd, Nat.reduceMul, Nat.reduceSub, Nat.reduceEqDiff, Nat.reduceLT, Nat.reduceLeDiff, Int.reduceEq, Int.reduceLT, Int.reduceLE, reduceIte, aresults, aresult, hp0] at hx; (try ((first | rw [guardL_if] at hx | rw [guardF_if] at hx); split at hx <;> rename_i hc)))); all_goals (subst hx; refine ⟨_, rfl, ?_⟩)
      repeat' (first | ((first | refine wSeqr ?_ | refine wSeqrF ?_ | refine wIf ?_ | refine wReg ?_ | refine wRegF ?_ | (refine wRet ?_; (try simp only [thenQ, blockQ]); refine ends_by ?_)); intro xx hx; have hc := trivial; (repeat' (simp only [hc, Nat.reduceBEq, go_sem, Nat.reduceAdd, Nat.reduceMul, Nat.reduceSub, Nat.reduceEqDiff, Nat.reduceLT, Nat.reduceLeDiff, Int.reduceEq, Int.reduceLT, Int.reduceLE, reduceIte, aresults, aresult, hp0] at hx; (try ((first | rw [guardL_if] at hx | rw [guardF_if] at hx); split at hx <;> rename_i hc)))); all_goals (subst hx; first | (refine ⟨_, rfl, fun ht => ?_, fun ht => ?_⟩ <;> (try simp only [bbs] at ht)) | (refine ⟨_, rfl, ?_⟩; (try simp only [tupOf])))) | refine wSkip ?_ | (refine wExit ?_; simp only [thenQ, blockQ, reduceIte, Nat.reduceEqDiff]) | refine wSeq ?_ | refine wBlock ?_)
      all_goals try exact False.elim kk
      rw [← List.map_append] at hac5
      exact ⟨_, _, ⟨l ++ m, ⟨bytes_app hbb hm1, by simp [hm2]; omega⟩, rfl⟩, SlB.ofRAcc hac5 10, rfl⟩
    · repeat' (first | ((first | refine wSeqr ?_ | refine wSeqrF ?_ | refine wIf ?_ | refine wReg ?_ | refine wRegF ?_ | (refine wRet ?_; (try simp only [thenQ, blockQ]); refine ends_by ?_)); intro xx hx; have hc := trivial; (repeat' (simp only [hc, Nat.reduceBEq, go_sem, Nat.reduceAdd, Nat.reduceMul, Nat.reduceSub, Nat.reduceEqDiff, Nat.reduceLT, Nat.reduceLeDiff, Int.reduceEq, Int.reduceLT, Int.reduceLE, reduceIte, aresults, aresult, hp0, w0, w1, w2] at hx; (try ((first | rw [guardL_if] at hx | rw [guardF_if] at hx); split at hx <;> rename_i hc)))); all_goals (subst hx; first | (refine ⟨_, rfl, fun ht => ?_, fun ht => ?_⟩ <;> (try simp only [bbs] at ht)) | (refine ⟨_, rfl, ?_⟩; (try simp only [tupOf])))) | refine wSkip ?_ | (refine wExit ?_; simp only [thenQ, blockQ, reduceIte, Nat.reduceEqDiff]) | refine wSeq ?_ | refine wBlock ?_)
      all_goals try exact False.elim kk
      all_goals exact fin _ _ l hbb (by omega) ⟨p, _, rfl, k1, by rw [List.take_of_length_le (by simp)]⟩
  obtain ⟨v, cl, ⟨l, hl, rfl⟩, hp⟩ := key
  exact ⟨l, hl, fun H => call_fz Tryz.func7 rfl ok_DrawRQ rfl (by simp only [fz_cons, fz_nil, go_sem, and_self]) hp H⟩
end
end
end Go.Proofs.YtnejoidfbgklbaaGreatDoor
namespace Go.Proofs.YtnejoidfbgklbaaGreatDoor
open Go Go.RowKit Go.Proofs.YtnejoidfbgklbaaGreatDoor.Eng
set_option linter.unusedSimpArgs false
set_option linter.unusedVariables false
set_option maxRecDepth 100000
set_option maxHeartbeats 2000000
noncomputable section
theorem d_tupA {H : Hp} {x t y u : AV} (h : deep H 11 x = some t) (h2 : deep H 11 y = some u) (z : Int) : deep H depthD (.tup [x, y, .v (.int .i64 z)]) = some (.tup [t, u, .v (.int .i64 z)]) := by
  show ([x, y, .v (.int .i64 z)].mapM (deep H 11)).map AV.tup = _
  rw [mapM_c h (mapM_c h2 (mapM_c rfl mapM_n))]; rfl
theorem mat_resZ (c : Int) (l : List Int) (hne : l ≠ []) (H : Hp) : mat depthD (.agg [.v (.int .i64 c), bytesL l]) H = some (.agg [.v (.int .i64 c), .sl H.g 1 0 l.length], H.new (l.map cell)) := mat_two (d := 10) (mat_bytes 9 l hne H)
theorem mat_resZ0 (c : Int) (H : Hp) : mat depthD (.agg [.v (.int .i64 c), bytesL []]) H = some (.agg [.v (.int .i64 c), .lst false []], H) := rfl
theorem findB_lenZ {f : Nat → List Int} {mo : Int} : ∀ (n : Nat) (o : List Int), findB f mo n = some o → (o.length : Int) ≤ mo := by
  intro n
  induction n with
  | zero => intro o h; simp [findB] at h
  | succ n ih =>
    intro o h
    simp only [findB] at h
    split at h
    · rename_i hle; obtain rfl := Option.some.inj h; exact hle
    · exact ih o h
theorem aqB_lenZ (vw : List ClaimM) (l : List Int) (mo : Int) : (aqB vw l mo).length ≤ 300 := by
  unfold aqB
  split
  · rename_i h
    have hm := inB_t.1 h.2.1
    cases ho : aqO vw l mo with
    | none => simp
    | some o =>
      have := findB_lenZ _ _ ho
      simp only [Option.getD_some]; omega
  · simp
theorem aqB_bytes {vw : List ClaimM} {l : List Int} {mo : Int} (hb : Eng.Bytes l) : Eng.Bytes (aqB vw l mo) := by
  unfold aqB
  split
  · rename_i h
    cases ho : aqO vw l mo with
    | none => intro z hz; simp at hz
    | some o =>
      obtain ⟨n, -, -, -, -, -, -, -, hB⟩ := ans_read hb h.1 h.2.1 h.2.2 ho
      exact hB
  · intro z hz; simp at hz
section
variable {code : List Int}
theorem ok_DrawAQ : fnOk Tryz.prog cfg0 9 Tryz.f9 = true := by kernel_rfl
theorem c_DrawAQ (hco : CodeOk code) : ∃ (ms : List ClaimM) (l : List Int) (mo : Int), ms.length ≤ 8 ∧ (Eng.Bytes l ∧ l.length ≤ 1000) ∧ ∀ H, call Tryz.prog cfg0 0 9 [bytesL code] H = some (.tup [.lst false (ms.map encClaim), bytesL l, .v (.int .i64 mo)], H) := by
  obtain ⟨l, hl, hRQ⟩ := c_DrawRQ hco
  have key : ∃ v cl, (∃ (ms : List ClaimM) (mo : Int), ms.length ≤ 8 ∧ v = .tup [.lst false (ms.map encClaim), bytesL l, .v (.int .i64 mo)]) ∧ pure Tryz.prog cfg0 9 Tryz.f9 [bytesL code] = some (v, cl) := by
    refine pure_ex (rs := [.tmp 2, .tmp 3, .tmp 4]) rfl rfl ?_
    have hp0 : ∀ b, cfg0.pol 9 b = 0 := fun b => rfl
    have hLt := d_Later code 2 (by omega) 2 rfl
    repeat' ((fail_if_success (first | refine wAt 2 ?_)); first | ((first | refine wSeqr ?_ | refine wSeqrF ?_ | refine wIf ?_ | refine wReg ?_ | refine wRegF ?_ | (refine wRet ?_; (try simp only [thenQ, blockQ]); refine ends_by ?_)); intro xx hx; have hc := trivial; (repeat' (simp only [hc, Nat.reduceBEq, go_sem, Nat.reduceAdd, Nat.reduceMul, Nat.reduceSub, Nat.reduceEqDiff, Nat.reduceLT, Nat.reduceLeDiff, Int.reduceEq, Int.reduceLT, Int.reduceLE, reduceIte, aresults, aresult, hp0, hLt] at hx; (try ((first | rw [guardL_if] at hx | rw [guardF_if] at hx); split at hx <;> rename_i hc)))); all_goals (subst hx; first | (refine ⟨_, rfl, fun ht => ?_, fun ht => ?_⟩ <;> (try simp only [bbs] at ht)) | (refine ⟨_, rfl, ?_⟩; (try simp only [tupOf])))) | refine wSkip ?_ | (refine wExit ?_; simp only [thenQ, blockQ, reduceIte, Nat.reduceEqDiff]) | refine wSeq ?_ | refine wBlock ?_)
    (first | refine wSeqr ?_ | refine wSeqrF ?_ | refine wReg ?_ | refine wRegF ?_); intro xx hx; have hc := trivial; (repeat' (simp only [hc, Nat.reduceBEq, go_sem, Nat.reduceAdd, Nat.reduceMul, Nat.reduceSub, Nat.reduceEqDiff, Nat.reduceLT, Nat.reduceLeDiff, Int.reduceEq, Int.reduceLT, Int.reduceLE, reduceIte, aresults, aresult, hp0] at hx; (try ((first | rw [guardL_if] at hx | rw [guardF_if] at hx); split at hx <;> rename_i hc)))); generalize hq : call Tryz.prog cfg0 0 _ _ _ = q at hx
    obtain ⟨x, H1, ms, rfl, hr, hlen, hvm, hoff, ⟨a1, -, ha1, S1⟩, F1⟩ := d_View hco (a := 19) (H := Hp.nil.new [bytesL code, .v (.int .i64 ((5 + 7 * 2 : Nat) : Int))]) ⟨new_same _ _, by simp⟩ (by omega) hq
    clear hq
    have hx0 : Off 0 x := hoff 0 (by show 0 < 1; omega)
    have hc := trivial; (repeat' (simp only [hc, Nat.reduceBEq, go_sem, Nat.reduceAdd, Nat.reduceMul, Nat.reduceSub, Nat.reduceEqDiff, Nat.reduceLT, Nat.reduceLeDiff, Int.reduceEq, Int.reduceLT, Int.reduceLE, reduceIte, aresults, aresult, hp0] at hx; (try ((first | rw [guardL_if] at hx | rw [guardF_if] at hx); split at hx <;> rename_i hc)))); all_goals (subst hx; refine ⟨_, rfl, ?_⟩)
    repeat' ((fail_if_success (first | refine wAt 3 ?_)); first | ((first | refine wSeqr ?_ | refine wSeqrF ?_ | refine wIf ?_ | refine wReg ?_ | refine wRegF ?_ | (refine wRet ?_; (try simp only [thenQ, blockQ]); refine ends_by ?_)); intro xx hx; have hc := trivial; (repeat' (simp only [hc, Nat.reduceBEq, go_sem, Nat.reduceAdd, Nat.reduceMul, Nat.reduceSub, Nat.reduceEqDiff, Nat.reduceLT, Nat.reduceLeDiff, Int.reduceEq, Int.reduceLT, Int.reduceLE, reduceIte, aresults, aresult, hp0] at hx; (try ((first | rw [guardL_if] at hx | rw [guardF_if] at hx); split at hx <;> rename_i hc)))); all_goals (subst hx; first | (refine ⟨_, rfl, fun ht => ?_, fun ht => ?_⟩ <;> (try simp only [bbs] at ht)) | (refine ⟨_, rfl, ?_⟩; (try simp only [tupOf])))) | refine wSkip ?_ | (refine wExit ?_; simp only [thenQ, blockQ, reduceIte, Nat.reduceEqDiff]) | refine wSeq ?_ | refine wBlock ?_)
    (first | refine wSeqr ?_ | refine wSeqrF ?_ | refine wReg ?_ | refine wRegF ?_); intro xx hx; have hc := trivial; (repeat' (simp only [hc, Nat.reduceBEq, go_sem, Nat.reduceAdd, Nat.reduceMul, Nat.reduceSub, Nat.reduceEqDiff, Nat.reduceLT, Nat.reduceLeDiff, Int.reduceEq, Int.reduceLT, Int.reduceLE, reduceIte, aresults, aresult, hp0] at hx; (try ((first | rw [guardL_if] at hx | rw [guardF_if] at hx); split at hx <;> rename_i hc)))); generalize hq : call Tryz.prog cfg0 0 _ _ _ = q at hx
    obtain ⟨v, H2, rfl, S2, F2, G2⟩ := d_Chance hco S1 (by omega) (by omega) hq
    clear hq
    have hr2 := hr.keep F2 hx0
    have s2 := S2.2
    have hc := trivial; (repeat' (simp only [hc, Nat.reduceBEq, go_sem, Nat.reduceAdd, Nat.reduceMul, Nat.reduceSub, Nat.reduceEqDiff, Nat.reduceLT, Nat.reduceLeDiff, Int.reduceEq, Int.reduceLT, Int.reduceLE, reduceIte, aresults, aresult, hp0] at hx; (try ((first | rw [guardL_if] at hx | rw [guardF_if] at hx); split at hx <;> rename_i hc)))); all_goals (subst hx; refine ⟨_, rfl, ?_⟩)
    cases v with
    | false =>
      repeat' ((fail_if_success (first | refine wAt 5 ?_)); first | ((first | refine wSeqr ?_ | refine wSeqrF ?_ | refine wIf ?_ | refine wReg ?_ | refine wRegF ?_ | (refine wRet ?_; (try simp only [thenQ, blockQ]); refine ends_by ?_)); intro xx hx; have hc := trivial; (repeat' (simp only [hc, Nat.reduceBEq, go_sem, Nat.reduceAdd, Nat.reduceMul, Nat.reduceSub, Nat.reduceEqDiff, Nat.reduceLT, Nat.reduceLeDiff, Int.reduceEq, Int.reduceLT, Int.reduceLE, reduceIte, aresults, aresult, hp0] at hx; (try ((first | rw [guardL_if] at hx | rw [guardF_if] at hx); split at hx <;> rename_i hc)))); all_goals (subst hx; first | (refine ⟨_, rfl, fun ht => ?_, fun ht => ?_⟩ <;> (try simp only [bbs] at ht)) | (refine ⟨_, rfl, ?_⟩; (try simp only [tupOf])))) | refine wSkip ?_ | (refine wExit ?_; simp only [thenQ, blockQ, reduceIte, Nat.reduceEqDiff]) | refine wSeq ?_ | refine wBlock ?_)
      all_goals try exact False.elim kk
      (first | refine wSeqr ?_ | refine wSeqrF ?_ | refine wReg ?_ | refine wRegF ?_); intro xx hx; have hc := trivial; (repeat' (simp only [hc, Nat.reduceBEq, go_sem, Nat.reduceAdd, Nat.reduceMul, Nat.reduceSub, Nat.reduceEqDiff, Nat.reduceLT, Nat.reduceLeDiff, Int.reduceEq, Int.reduceLT, Int.reduceLE, reduceIte, aresults, aresult, hp0, hRQ] at hx; (try ((first | rw [guardL_if] at hx | rw [guardF_if] at hx); split at hx <;> rename_i hc)))); generalize hq : call Tryz.prog cfg0 0 24 _ _ = q at hx
      obtain ⟨z1, H3, rfl, -, S3, F3, G3⟩ := d_Pick [300, 60, 80, 61, 59, 301, 100] (by simp) hco S2 (by omega) hq
      clear hq
      have hr4 := hr2.keep F3 hx0
      have hc := trivial; (repeat' (simp only [hc, Nat.reduceBEq, go_sem, Nat.reduceAdd, Nat.reduceMul, Nat.reduceSub, Nat.reduceEqDiff, Nat.reduceLT, Nat.reduceLeDiff, Int.reduceEq, Int.reduceLT, Int.reduceLE, reduceIte, aresults, aresult, hp0] at hx; (try ((first | rw [guardL_if] at hx | rw [guardF_if] at hx); split at hx <;> rename_i hc)))); all_goals (subst hx; refine ⟨_, rfl, ?_⟩)
      repeat' (first | ((first | refine wSeqr ?_ | refine wSeqrF ?_ | refine wIf ?_ | refine wReg ?_ | refine wRegF ?_ | (refine wRet ?_; (try simp only [thenQ, blockQ]); refine ends_by ?_)); intro xx hx; have hc := trivial; (repeat' (simp only [hc, Nat.reduceBEq, go_sem, Nat.reduceAdd, Nat.reduceMul, Nat.reduceSub, Nat.reduceEqDiff, Nat.reduceLT, Nat.reduceLeDiff, Int.reduceEq, Int.reduceLT, Int.reduceLE, reduceIte, aresults, aresult, hp0] at hx; (try ((first | rw [guardL_if] at hx | rw [guardF_if] at hx); split at hx <;> rename_i hc)))); all_goals (subst hx; first | (refine ⟨_, rfl, fun ht => ?_, fun ht => ?_⟩ <;> (try simp only [bbs] at ht)) | (refine ⟨_, rfl, ?_⟩; (try simp only [tupOf])))) | refine wSkip ?_ | (refine wExit ?_; simp only [thenQ, blockQ, reduceIte, Nat.reduceEqDiff]) | refine wSeq ?_ | refine wBlock ?_)
      all_goals try exact False.elim kk
      exact ⟨_, _, ⟨ms, z1, hlen, rfl⟩, d_tupA (hr4.deep 9) ((bytesL_fz 9 l).1 _) z1, rfl⟩
    | true =>
      repeat' ((fail_if_success (first | refine wAt 4 ?_)); first | ((first | refine wSeqr ?_ | refine wSeqrF ?_ | refine wIf ?_ | refine wReg ?_ | refine wRegF ?_ | (refine wRet ?_; (try simp only [thenQ, blockQ]); refine ends_by ?_)); intro xx hx; have hc := trivial; (repeat' (simp only [hc, Nat.reduceBEq, go_sem, Nat.reduceAdd, Nat.reduceMul, Nat.reduceSub, Nat.reduceEqDiff, Nat.reduceLT, Nat.reduceLeDiff, Int.reduceEq, Int.reduceLT, Int.reduceLE, reduceIte, aresults, aresult, hp0] at hx; (try ((first | rw [guardL_if] at hx | rw [guardF_if] at hx); split at hx <;> rename_i hc)))); all_goals (subst hx; first | (refine ⟨_, rfl, fun ht => ?_, fun ht => ?_⟩ <;> (try simp only [bbs] at ht)) | (refine ⟨_, rfl, ?_⟩; (try simp only [tupOf])))) | refine wSkip ?_ | (refine wExit ?_; simp only [thenQ, blockQ, reduceIte, Nat.reduceEqDiff]) | refine wSeq ?_ | refine wBlock ?_)
      all_goals try exact False.elim kk
      (first | refine wSeqr ?_ | refine wSeqrF ?_ | refine wReg ?_ | refine wRegF ?_); intro xx hx; have hc := trivial; (repeat' (simp only [hc, Nat.reduceBEq, go_sem, Nat.reduceAdd, Nat.reduceMul, Nat.reduceSub, Nat.reduceEqDiff, Nat.reduceLT, Nat.reduceLeDiff, Int.reduceEq, Int.reduceLT, Int.reduceLE, reduceIte, aresults, aresult, hp0] at hx; (try ((first | rw [guardL_if] at hx | rw [guardF_if] at hx); split at hx <;> rename_i hc)))); generalize hq : call Tryz.prog cfg0 0 _ _ _ = q at hx
      obtain ⟨y, H5, ms5, rfl, hr5, hlen5, hoff5, ⟨a5, -, ha5, S5⟩, F5⟩ := d_8Bent hco S2 (by omega) hq
      clear hq
      have hy0 : Off 0 y := hoff5 0 s2
      have hc := trivial; (repeat' (simp only [hc, Nat.reduceBEq, go_sem, Nat.reduceAdd, Nat.reduceMul, Nat.reduceSub, Nat.reduceEqDiff, Nat.reduceLT, Nat.reduceLeDiff, Int.reduceEq, Int.reduceLT, Int.reduceLE, reduceIte, aresults, aresult, hp0] at hx; (try ((first | rw [guardL_if] at hx | rw [guardF_if] at hx); split at hx <;> rename_i hc)))); all_goals (subst hx; refine ⟨_, rfl, ?_⟩)
      repeat' ((fail_if_success (first | refine wAt 5 ?_)); first | ((first | refine wSeqr ?_ | refine wSeqrF ?_ | refine wIf ?_ | refine wReg ?_ | refine wRegF ?_ | (refine wRet ?_; (try simp only [thenQ, blockQ]); refine ends_by ?_)); intro xx hx; have hc := trivial; (repeat' (simp only [hc, Nat.reduceBEq, go_sem, Nat.reduceAdd, Nat.reduceMul, Nat.reduceSub, Nat.reduceEqDiff, Nat.reduceLT, Nat.reduceLeDiff, Int.reduceEq, Int.reduceLT, Int.reduceLE, reduceIte, aresults, aresult, hp0] at hx; (try ((first | rw [guardL_if] at hx | rw [guardF_if] at hx); split at hx <;> rename_i hc)))); all_goals (subst hx; first | (refine ⟨_, rfl, fun ht => ?_, fun ht => ?_⟩ <;> (try simp only [bbs] at ht)) | (refine ⟨_, rfl, ?_⟩; (try simp only [tupOf])))) | refine wSkip ?_ | (refine wExit ?_; simp only [thenQ, blockQ, reduceIte, Nat.reduceEqDiff]) | refine wSeq ?_ | refine wBlock ?_)
      (first | refine wSeqr ?_ | refine wSeqrF ?_ | refine wReg ?_ | refine wRegF ?_); intro xx hx; have hc := trivial; (repeat' (simp only [hc, Nat.reduceBEq, go_sem, Nat.reduceAdd, Nat.reduceMul, Nat.reduceSub, Nat.reduceEqDiff, Nat.reduceLT, Nat.reduceLeDiff, Int.reduceEq, Int.reduceLT, Int.reduceLE, reduceIte, aresults, aresult, hp0, hRQ] at hx; (try ((first | rw [guardL_if] at hx | rw [guardF_if] at hx); split at hx <;> rename_i hc)))); generalize hq : call Tryz.prog cfg0 0 24 _ _ = q at hx
      obtain ⟨z1, H3, rfl, -, S3, F3, G3⟩ := d_Pick [300, 60, 80, 61, 59, 301, 100] (by simp) hco S5 (by omega) hq
      clear hq
      have hr4 := hr5.keep F3 hy0
      have hc := trivial; (repeat' (simp only [hc, Nat.reduceBEq, go_sem, Nat.reduceAdd, Nat.reduceMul, Nat.reduceSub, Nat.reduceEqDiff, Nat.reduceLT, Nat.reduceLeDiff, Int.reduceEq, Int.reduceLT, Int.reduceLE, reduceIte, aresults, aresult, hp0] at hx; (try ((first | rw [guardL_if] at hx | rw [guardF_if] at hx); split at hx <;> rename_i hc)))); all_goals (subst hx; refine ⟨_, rfl, ?_⟩)
      repeat' (first | ((first | refine wSeqr ?_ | refine wSeqrF ?_ | refine wIf ?_ | refine wReg ?_ | refine wRegF ?_ | (refine wRet ?_; (try simp only [thenQ, blockQ]); refine ends_by ?_)); intro xx hx; have hc := trivial; (repeat' (simp only [hc, Nat.reduceBEq, go_sem, Nat.reduceAdd, Nat.reduceMul, Nat.reduceSub, Nat.reduceEqDiff, Nat.reduceLT, Nat.reduceLeDiff, Int.reduceEq, Int.reduceLT, Int.reduceLE, reduceIte, aresults, aresult, hp0] at hx; (try ((first | rw [guardL_if] at hx | rw [guardF_if] at hx); split at hx <;> rename_i hc)))); all_goals (subst hx; first | (refine ⟨_, rfl, fun ht => ?_, fun ht => ?_⟩ <;> (try simp only [bbs] at ht)) | (refine ⟨_, rfl, ?_⟩; (try simp only [tupOf])))) | refine wSkip ?_ | (refine wExit ?_; simp only [thenQ, blockQ, reduceIte, Nat.reduceEqDiff]) | refine wSeq ?_ | refine wBlock ?_)
      all_goals try exact False.elim kk
      exact ⟨_, _, ⟨ms5, z1, hlen5, rfl⟩, d_tupA (hr4.deep 9) ((bytesL_fz 9 l).1 _) z1, rfl⟩
  obtain ⟨v, cl, ⟨ms, mo, hm, rfl⟩, hp⟩ := key
  exact ⟨ms, l, mo, hm, hl, fun H => call_fz Tryz.func9 rfl ok_DrawAQ rfl (by simp only [fz_cons, fz_nil, go_sem, and_self]) hp H⟩
theorem ok_DrawRA : fnOk Tryz.prog cfg0 11 Tryz.f11 = true := by kernel_rfl
theorem c_DrawRA (hco : CodeOk code) : ∃ l : List Int, (Eng.Bytes l ∧ l.length ≤ 1000) ∧ ∀ H, call Tryz.prog cfg0 0 11 [bytesL code] H = some (bytesL l, H) := by
  obtain ⟨ms, d, mo, hms, hd, hAQ⟩ := c_DrawAQ hco
  have hoA := o_sAnswerQuery ms (by omega) d hd.1 (by omega) mo
  have hBl := aqB_lenZ ms d mo
  have hBb : Eng.Bytes (aqB ms d mo) := aqB_bytes hd.1
  generalize aqC ms d mo = cA at *
  generalize aqB ms d mo = l at *
  have key : ∃ v cl, (∃ l : List Int, (Eng.Bytes l ∧ l.length ≤ 1000) ∧ v = bytesL l) ∧ pure Tryz.prog cfg0 11 Tryz.f11 [bytesL code] = some (v, cl) := by
    refine pure_ex (rs := [.tmp 2]) rfl rfl ?_
    have hp0 : ∀ b, cfg0.pol 11 b = (if b = 19 then 1 else if b = 33 then 2 else if b = 34 then 2 else if b = 1000000 then 2 else 0) := fun b => rfl
    have hLt := d_Later code 3 (by omega) 3 rfl
    have fin : ∀ (K : Hp) (y : AV) (m : List Int), Eng.Bytes m → m.length ≤ 1000 → SlB K y m → ∃ v cl, (∃ l : List Int, (Eng.Bytes l ∧ l.length ≤ 1000) ∧ v = bytesL l) ∧ Gives v cl y K := fun K y m h1 h2 h3 => ⟨_, _, ⟨m, ⟨h1, h2⟩, rfl⟩, h3.deep 10, rfl⟩
    have S0 : Src (Hp.nil.new [bytesL code, .v (.int .i64 ((5 + 7 * 3 : Nat) : Int))]) 0 code 26 := ⟨new_same _ _, by simp⟩
    by_cases hne : l = []
    · subst hne
      have hoA' : ∀ H, call Tryz.prog cfg0 1 14 [.lst false (ms.map encClaim), bytesL d, .v (.int .i64 mo)] H = some (.agg [.v (.int .i64 cA), .lst false []], H) := fun H => (hoA H).trans (mat_resZ0 cA H)
      repeat' ((fail_if_success (first | refine wAt 4 ?_)); first | ((first | refine wSeqr ?_ | refine wSeqrF ?_ | refine wIf ?_ | refine wReg ?_ | refine wRegF ?_ | (refine wRet ?_; (try simp only [thenQ, blockQ]); refine ends_by ?_)); intro xx hx; have hc := trivial; (repeat' (simp only [hc, Nat.reduceBEq, go_sem, Nat.reduceAdd, Nat.reduceMul, Nat.reduceSub, Nat.reduceEqDiff, Nat.reduceLT, Nat.reduceLeDiff, Int.reduceEq, Int.reduceLT, Int.reduceLE, reduceIte, aresults, aresult, hp0, hLt, hAQ, hoA'] at hx; (try ((first | rw [guardL_if] at hx | rw [guardF_if] at hx); split at hx <;> rename_i hc)))); all_goals (subst hx; first | (refine ⟨_, rfl, fun ht => ?_, fun ht => ?_⟩ <;> (try simp only [bbs] at ht)) | (refine ⟨_, rfl, ?_⟩; (try simp only [tupOf])))) | refine wSkip ?_ | (refine wExit ?_; simp only [thenQ, blockQ, reduceIte, Nat.reduceEqDiff]) | refine wSeq ?_ | refine wBlock ?_)
      (first | refine wSeqr ?_ | refine wSeqrF ?_ | refine wReg ?_ | refine wRegF ?_); intro xx hx; have hc := trivial; (repeat' (simp only [hc, Nat.reduceBEq, go_sem, Nat.reduceAdd, Nat.reduceMul, Nat.reduceSub, Nat.reduceEqDiff, Nat.reduceLT, Nat.reduceLeDiff, Int.reduceEq, Int.reduceLT, Int.reduceLE, reduceIte, aresults, aresult, hp0] at hx; (try ((first | rw [guardL_if] at hx | rw [guardF_if] at hx); split at hx <;> rename_i hc)))); generalize hq : call Tryz.prog cfg0 0 _ _ _ = q at hx
      obtain ⟨v, H2, rfl, v1, S3, F2, G2⟩ := d_Next hco S0 (by omega) (by omega) hq
      clear hq
      have hc := trivial; (repeat' (simp only [hc, Nat.reduceBEq, go_sem, Nat.reduceAdd, Nat.reduceMul, Nat.reduceSub, Nat.reduceEqDiff, Nat.reduceLT, Nat.reduceLeDiff, Int.reduceEq, Int.reduceLT, Int.reduceLE, reduceIte, aresults, aresult, hp0] at hx; (try ((first | rw [guardL_if] at hx | rw [guardF_if] at hx); split at hx <;> rename_i hc)))); all_goals (subst hx; refine ⟨_, rfl, ?_⟩)
      have fin0 : ∀ (K : Hp), ∃ v cl, (∃ l : List Int, (Eng.Bytes l ∧ l.length ≤ 1000) ∧ v = bytesL l) ∧ Gives v cl (.lst false []) K := fun K => ⟨_, _, ⟨[], ⟨fun z hz => by simp at hz, by simp⟩, rfl⟩, rfl, rfl⟩
      have z00 : ((0 : Int) < ((0 : Nat) : Int)) = False := by simp
      by_cases w0 : v = 0
      · subst w0
        repeat' (first | ((first | refine wSeqr ?_ | refine wSeqrF ?_ | refine wIf ?_ | refine wReg ?_ | refine wRegF ?_ | (refine wRet ?_; (try simp only [thenQ, blockQ]); refine ends_by ?_)); intro xx hx; have hc := trivial; (repeat' (simp only [hc, Nat.reduceBEq, go_sem, Nat.reduceAdd, Nat.reduceMul, Nat.reduceSub, Nat.reduceEqDiff, Nat.reduceLT, Nat.reduceLeDiff, Int.reduceEq, Int.reduceLT, Int.reduceLE, reduceIte, aresults, aresult, hp0, z00] at hx; (try ((first | rw [guardL_if] at hx | rw [guardF_if] at hx); split at hx <;> rename_i hc)))); all_goals (subst hx; first | (refine ⟨_, rfl, fun ht => ?_, fun ht => ?_⟩ <;> (try simp only [bbs] at ht)) | (refine ⟨_, rfl, ?_⟩; (try simp only [tupOf])))) | refine wSkip ?_ | (refine wExit ?_; simp only [thenQ, blockQ, reduceIte, Nat.reduceEqDiff]) | refine wSeq ?_ | refine wBlock ?_)
        all_goals try exact False.elim kk
        all_goals exact fin0 _
      by_cases w1 : v = 1
      · subst w1
        repeat' (first | ((first | refine wSeqr ?_ | refine wSeqrF ?_ | refine wIf ?_ | refine wReg ?_ | refine wRegF ?_ | (refine wRet ?_; (try simp only [thenQ, blockQ]); refine ends_by ?_)); intro xx hx; have hc := trivial; (repeat' (simp only [hc, Nat.reduceBEq, go_sem, Nat.reduceAdd, Nat.reduceMul, Nat.reduceSub, Nat.reduceEqDiff, Nat.reduceLT, Nat.reduceLeDiff, Int.reduceEq, Int.reduceLT, Int.reduceLE, reduceIte, aresults, aresult, hp0, z00] at hx; (try ((first | rw [guardL_if] at hx | rw [guardF_if] at hx); split at hx <;> rename_i hc)))); all_goals (subst hx; first | (refine ⟨_, rfl, fun ht => ?_, fun ht => ?_⟩ <;> (try simp only [bbs] at ht)) | (refine ⟨_, rfl, ?_⟩; (try simp only [tupOf])))) | refine wSkip ?_ | (refine wExit ?_; simp only [thenQ, blockQ, reduceIte, Nat.reduceEqDiff]) | refine wSeq ?_ | refine wBlock ?_)
        all_goals try exact False.elim kk
        all_goals exact fin0 _
      · repeat' (first | ((first | refine wSeqr ?_ | refine wSeqrF ?_ | refine wIf ?_ | refine wReg ?_ | refine wRegF ?_ | (refine wRet ?_; (try simp only [thenQ, blockQ]); refine ends_by ?_)); intro xx hx; have hc := trivial; (repeat' (simp only [hc, Nat.reduceBEq, go_sem, Nat.reduceAdd, Nat.reduceMul, Nat.reduceSub, Nat.reduceEqDiff, Nat.reduceLT, Nat.reduceLeDiff, Int.reduceEq, Int.reduceLT, Int.reduceLE, reduceIte, aresults, aresult, hp0, w0, w1] at hx; (try ((first | rw [guardL_if] at hx | rw [guardF_if] at hx); split at hx <;> rename_i hc)))); all_goals (subst hx; first | (refine ⟨_, rfl, fun ht => ?_, fun ht => ?_⟩ <;> (try simp only [bbs] at ht)) | (refine ⟨_, rfl, ?_⟩; (try simp only [tupOf])))) | refine wSkip ?_ | (refine wExit ?_; simp only [thenQ, blockQ, reduceIte, Nat.reduceEqDiff]) | refine wSeq ?_ | refine wBlock ?_)
        all_goals try exact False.elim kk
        all_goals exact fin0 _
    have hoA' : ∀ H, call Tryz.prog cfg0 1 14 [.lst false (ms.map encClaim), bytesL d, .v (.int .i64 mo)] H = some (.agg [.v (.int .i64 cA), .sl H.g 1 0 l.length], H.new (l.map cell)) := fun H => (hoA H).trans (mat_resZ cA l hne H)
    have hl0 : l.length ≠ 0 := fun e => hne (List.length_eq_zero_iff.1 e)
    have hlI : 0 < ((l.length : Nat) : Int) := by omega
    repeat' ((fail_if_success (first | refine wAt 4 ?_)); first | ((first | refine wSeqr ?_ | refine wSeqrF ?_ | refine wIf ?_ | refine wReg ?_ | refine wRegF ?_ | (refine wRet ?_; (try simp only [thenQ, blockQ]); refine ends_by ?_)); intro xx hx; have hc := trivial; (repeat' (simp only [hc, Nat.reduceBEq, go_sem, Nat.reduceAdd, Nat.reduceMul, Nat.reduceSub, Nat.reduceEqDiff, Nat.reduceLT, Nat.reduceLeDiff, Int.reduceEq, Int.reduceLT, Int.reduceLE, reduceIte, aresults, aresult, hp0, hLt, hAQ, hoA'] at hx; (try ((first | rw [guardL_if] at hx | rw [guardF_if] at hx); split at hx <;> rename_i hc)))); all_goals (subst hx; first | (refine ⟨_, rfl, fun ht => ?_, fun ht => ?_⟩ <;> (try simp only [bbs] at ht)) | (refine ⟨_, rfl, ?_⟩; (try simp only [tupOf])))) | refine wSkip ?_ | (refine wExit ?_; simp only [thenQ, blockQ, reduceIte, Nat.reduceEqDiff]) | refine wSeq ?_ | refine wBlock ?_)
    (first | refine wSeqr ?_ | refine wSeqrF ?_ | refine wReg ?_ | refine wRegF ?_); intro xx hx; have hc := trivial; (repeat' (simp only [hc, Nat.reduceBEq, go_sem, Nat.reduceAdd, Nat.reduceMul, Nat.reduceSub, Nat.reduceEqDiff, Nat.reduceLT, Nat.reduceLeDiff, Int.reduceEq, Int.reduceLT, Int.reduceLE, reduceIte, aresults, aresult, hp0] at hx; (try ((first | rw [guardL_if] at hx | rw [guardF_if] at hx); split at hx <;> rename_i hc)))); generalize hq : call Tryz.prog cfg0 0 _ _ _ = q at hx
    have S2 : Src ((Hp.nil.new [bytesL code, .v (.int .i64 ((5 + 7 * 3 : Nat) : Int))]).new (l.map cell)) 0 code 26 := ⟨rfl, by simp⟩
    have hp : ((Hp.nil.new [bytesL code, .v (.int .i64 ((5 + 7 * 3 : Nat) : Int))]).new (l.map cell)).h 1 = some (l.map cell) := rfl
    have hpg : 1 < ((Hp.nil.new [bytesL code, .v (.int .i64 ((5 + 7 * 3 : Nat) : Int))]).new (l.map cell)).g := by show 1 < 2; omega
    obtain ⟨v, H2, rfl, v1, S3, F2, G2⟩ := d_Next hco S2 (by omega) (by omega) hq
    clear hq
    generalize ((Hp.nil.new [bytesL code, .v (.int .i64 ((5 + 7 * 3 : Nat) : Int))]).new (l.map cell)) = H at *
    have hkeep : ∀ {K : Hp}, Fr 0 H K → K.h 1 = some (l.map cell) := fun f => (f.2 1 hpg (by omega)).trans hp
    have v2 := v1.2.1 (by omega)
    have k1 := hkeep F2
    have hc := trivial; (repeat' (simp only [hc, Nat.reduceBEq, go_sem, Nat.reduceAdd, Nat.reduceMul, Nat.reduceSub, Nat.reduceEqDiff, Nat.reduceLT, Nat.reduceLeDiff, Int.reduceEq, Int.reduceLT, Int.reduceLE, reduceIte, aresults, aresult, hp0] at hx; (try ((first | rw [guardL_if] at hx | rw [guardF_if] at hx); split at hx <;> rename_i hc)))); all_goals (subst hx; refine ⟨_, rfl, ?_⟩)
    by_cases w0 : v = 0
    · subst w0
      repeat' ((fail_if_success (first | refine wAt 7 ?_)); first | ((first | refine wSeqr ?_ | refine wSeqrF ?_ | refine wIf ?_ | refine wReg ?_ | refine wRegF ?_ | (refine wRet ?_; (try simp only [thenQ, blockQ]); refine ends_by ?_)); intro xx hx; have hc := trivial; (repeat' (simp only [hc, Nat.reduceBEq, go_sem, Nat.reduceAdd, Nat.reduceMul, Nat.reduceSub, Nat.reduceEqDiff, Nat.reduceLT, Nat.reduceLeDiff, Int.reduceEq, Int.reduceLT, Int.reduceLE, reduceIte, aresults, aresult, hp0, hlI] at hx; (try ((first | rw [guardL_if] at hx | rw [guardF_if] at hx); split at hx <;> rename_i hc)))); all_goals (subst hx; first | (refine ⟨_, rfl, fun ht => ?_, fun ht => ?_⟩ <;> (try simp only [bbs] at ht)) | (refine ⟨_, rfl, ?_⟩; (try simp only [tupOf])))) | refine wSkip ?_ | (refine wExit ?_; simp only [thenQ, blockQ, reduceIte, Nat.reduceEqDiff]) | refine wSeq ?_ | refine wBlock ?_)
      all_goals try exact False.elim kk
      refine wRegN 13 (Hp.one 1 (l.map cell)) (hExt_one k1) (fun xx hx => ?_)
      have hc := trivial; (repeat' (simp only [hc, Nat.reduceBEq, go_sem, Nat.reduceAdd, Nat.reduceMul, Nat.reduceSub, Nat.reduceEqDiff, Nat.reduceLT, Nat.reduceLeDiff, Int.reduceEq, Int.reduceLT, Int.reduceLE, reduceIte, aresults, aresult, hp0] at hx; (try ((first | rw [guardL_if] at hx | rw [guardF_if] at hx); split at hx <;> rename_i hc)))); generalize hq : call Tryz.prog cfg0 0 _ _ _ = q at hx
      obtain ⟨v, H3, rfl, y1, S4, F3, G3⟩ := d_Next hco S3 (by omega) (by omega) hq
      clear hq
      have y2 := y1.2.1 (by omega)
      have k2 := hkeep (F2.trans F3)
      obtain ⟨z, hz, -, hm⟩ := at_drop (l := l) (j := v.toNat) (by omega)
      have z8 := hBb z hm
      have hz' : (l.map cell)[v.toNat]? = some (cell z) := by rw [List.getElem?_map, hz]; rfl
      have hnat : natOf (.v (.int .i64 v)) = some v.toNat := by simp only [natOf]; rw [if_pos y1.1]
      have hvl : v.toNat < l.length := by omega
      have hc := trivial; (repeat' (simp only [hc, Nat.reduceBEq, go_sem, Nat.reduceAdd, Nat.reduceMul, Nat.reduceSub, Nat.reduceEqDiff, Nat.reduceLT, Nat.reduceLeDiff, Int.reduceEq, Int.reduceLT, Int.reduceLE, reduceIte, aresults, aresult, hp0, k1, k2, hz', hnat, hvl, one_h, Option.isSome_some] at hx; (try ((first | rw [guardL_if] at hx | rw [guardF_if] at hx); split at hx <;> rename_i hc)))); generalize hq : call Tryz.prog cfg0 0 _ _ _ = q at hx
      obtain ⟨v', H4, rfl, y3, S5, F4, G4⟩ := d_Next hco S4 (by omega) (by omega) hq
      clear hq
      have y4 := y3.2.1 (by omega)
      have k3 := hkeep ((F2.trans F3).trans F4)
      have w3 : IntKind.wrap .i64 (1 + v') = 1 + v' := wrap_i64 (by omega) (by omega)
      have w8 : IntKind.wrap .u8 (1 + v') = 1 + v' := wrap_u8 (by omega) (by omega)
      have hvl2 : v.toNat + 1 ≤ (l.map cell).length := by rw [List.length_map]; omega
      have hc := trivial; (repeat' (simp only [hc, Nat.reduceBEq, go_sem, Nat.reduceAdd, Nat.reduceMul, Nat.reduceSub, Nat.reduceEqDiff, Nat.reduceLT, Nat.reduceLeDiff, Int.reduceEq, Int.reduceLT, Int.reduceLE, reduceIte, aresults, aresult, hp0, k1, k2, k3, hz', hnat, hvl, hvl2, one_h, Option.isSome_some, cell, w3, w8, aconv_int u2 u5] at hx; (try ((first | rw [guardL_if] at hx | rw [guardF_if] at hx); split at hx <;> rename_i hc)))); all_goals (subst hx; refine ⟨_, rfl, ?_⟩)
      repeat' (first | ((first | refine wSeqr ?_ | refine wSeqrF ?_ | refine wIf ?_ | refine wReg ?_ | refine wRegF ?_ | (refine wRet ?_; (try simp only [thenQ, blockQ]); refine ends_by ?_)); intro xx hx; have hc := trivial; (repeat' (simp only [hc, Nat.reduceBEq, go_sem, Nat.reduceAdd, Nat.reduceMul, Nat.reduceSub, Nat.reduceEqDiff, Nat.reduceLT, Nat.reduceLeDiff, Int.reduceEq, Int.reduceLT, Int.reduceLE, reduceIte, aresults, aresult, hp0] at hx; (try ((first | rw [guardL_if] at hx | rw [guardF_if] at hx); split at hx <;> rename_i hc)))); all_goals (subst hx; first | (refine ⟨_, rfl, fun ht => ?_, fun ht => ?_⟩ <;> (try simp only [bbs] at ht)) | (refine ⟨_, rfl, ?_⟩; (try simp only [tupOf])))) | refine wSkip ?_ | (refine wExit ?_; simp only [thenQ, blockQ, reduceIte, Nat.reduceEqDiff]) | refine wSeq ?_ | refine wBlock ?_)
      all_goals try exact False.elim kk
      obtain ⟨l', h1, h2, h3⟩ := slB_set hBb _ _ _ _
      exact fin _ _ l' h1 (by omega) h3
    by_cases w1 : v = 1
    · subst w1
      repeat' ((fail_if_success (first | refine wAt 10 ?_)); first | ((first | refine wSeqr ?_ | refine wSeqrF ?_ | refine wIf ?_ | refine wReg ?_ | refine wRegF ?_ | (refine wRet ?_; (try simp only [thenQ, blockQ]); refine ends_by ?_)); intro xx hx; have hc := trivial; (repeat' (simp only [hc, Nat.reduceBEq, go_sem, Nat.reduceAdd, Nat.reduceMul, Nat.reduceSub, Nat.reduceEqDiff, Nat.reduceLT, Nat.reduceLeDiff, Int.reduceEq, Int.reduceLT, Int.reduceLE, reduceIte, aresults, aresult, hp0, hlI] at hx; (try ((first | rw [guardL_if] at hx | rw [guardF_if] at hx); split at hx <;> rename_i hc)))); all_goals (subst hx; first | (refine ⟨_, rfl, fun ht => ?_, fun ht => ?_⟩ <;> (try simp only [bbs] at ht)) | (refine ⟨_, rfl, ?_⟩; (try simp only [tupOf])))) | refine wSkip ?_ | (refine wExit ?_; simp only [thenQ, blockQ, reduceIte, Nat.reduceEqDiff]) | refine wSeq ?_ | refine wBlock ?_)
      all_goals try exact False.elim kk
      (first | refine wSeqr ?_ | refine wSeqrF ?_ | refine wReg ?_ | refine wRegF ?_); intro xx hx; have hc := trivial; (repeat' (simp only [hc, Nat.reduceBEq, go_sem, Nat.reduceAdd, Nat.reduceMul, Nat.reduceSub, Nat.reduceEqDiff, Nat.reduceLT, Nat.reduceLeDiff, Int.reduceEq, Int.reduceLT, Int.reduceLE, reduceIte, aresults, aresult, hp0] at hx; (try ((first | rw [guardL_if] at hx | rw [guardF_if] at hx); split at hx <;> rename_i hc)))); generalize hq : call Tryz.prog cfg0 0 _ _ _ = q at hx
      obtain ⟨v, H3, rfl, y1, S4, F3, G3⟩ := d_Next hco S3 (by omega) (by omega) hq
      clear hq
      have y2 := y1.2.1 (by omega)
      have k2 := hkeep (F2.trans F3)
      have hnat : natOf (.v (.int .i64 v)) = some v.toNat := by simp only [natOf]; rw [if_pos y1.1]
      have hvl : v.toNat ≤ (l.map cell).length := by rw [List.length_map]; omega
      have hvc : (0 ≤ v.toNat ∧ v.toNat ≤ (l.map cell).length) = True := eq_true ⟨Nat.zero_le _, hvl⟩
      have hc := trivial; (repeat' (simp only [hc, Nat.reduceBEq, go_sem, Nat.reduceAdd, Nat.reduceMul, Nat.reduceSub, Nat.reduceEqDiff, Nat.reduceLT, Nat.reduceLeDiff, Int.reduceEq, Int.reduceLT, Int.reduceLE, reduceIte, aresults, aresult, hp0, hnat, k2, slO, hvc, Nat.sub_zero] at hx; (try ((first | rw [guardL_if] at hx | rw [guardF_if] at hx); split at hx <;> rename_i hc)))); all_goals (subst hx; refine ⟨_, rfl, ?_⟩)
      repeat' (first | ((first | refine wSeqr ?_ | refine wSeqrF ?_ | refine wIf ?_ | refine wReg ?_ | refine wRegF ?_ | (refine wRet ?_; (try simp only [thenQ, blockQ]); refine ends_by ?_)); intro xx hx; have hc := trivial; (repeat' (simp only [hc, Nat.reduceBEq, go_sem, Nat.reduceAdd, Nat.reduceMul, Nat.reduceSub, Nat.reduceEqDiff, Nat.reduceLT, Nat.reduceLeDiff, Int.reduceEq, Int.reduceLT, Int.reduceLE, reduceIte, aresults, aresult, hp0] at hx; (try ((first | rw [guardL_if] at hx | rw [guardF_if] at hx); split at hx <;> rename_i hc)))); all_goals (subst hx; first | (refine ⟨_, rfl, fun ht => ?_, fun ht => ?_⟩ <;> (try simp only [bbs] at ht)) | (refine ⟨_, rfl, ?_⟩; (try simp only [tupOf])))) | refine wSkip ?_ | (refine wExit ?_; simp only [thenQ, blockQ, reduceIte, Nat.reduceEqDiff]) | refine wSeq ?_ | refine wBlock ?_)
      all_goals try exact False.elim kk
      refine fin _ _ (l.take v.toNat) (fun z hz => hBb z (List.mem_of_mem_take hz)) (by rw [List.length_take]; omega) ⟨1, _, ?_, k2, ?_⟩
      · rw [List.length_take]; rw [List.length_map] at hvl; rw [Nat.min_eq_left hvl]
      · rw [List.map_take, List.length_take]; rw [List.length_map] at hvl; rw [Nat.min_eq_left hvl]
    · repeat' (first | ((first | refine wSeqr ?_ | refine wSeqrF ?_ | refine wIf ?_ | refine wReg ?_ | refine wRegF ?_ | (refine wRet ?_; (try simp only [thenQ, blockQ]); refine ends_by ?_)); intro xx hx; have hc := trivial; (repeat' (simp only [hc, Nat.reduceBEq, go_sem, Nat.reduceAdd, Nat.reduceMul, Nat.reduceSub, Nat.reduceEqDiff, Nat.reduceLT, Nat.reduceLeDiff, Int.reduceEq, Int.reduceLT, Int.reduceLE, reduceIte, aresults, aresult, hp0, w0, w1] at hx; (try ((first | rw [guardL_if] at hx | rw [guardF_if] at hx); split at hx <;> rename_i hc)))); all_goals (subst hx; first | (refine ⟨_, rfl, fun ht => ?_, fun ht => ?_⟩ <;> (try simp only [bbs] at ht)) | (refine ⟨_, rfl, ?_⟩; (try simp only [tupOf])))) | refine wSkip ?_ | (refine wExit ?_; simp only [thenQ, blockQ, reduceIte, Nat.reduceEqDiff]) | refine wSeq ?_ | refine wBlock ?_)
      all_goals try exact False.elim kk
      all_goals exact fin _ _ l hBb (by omega) ⟨1, _, rfl, k1, by rw [List.take_of_length_le (by simp)]⟩
  obtain ⟨v, cl, ⟨l, hl, rfl⟩, hp⟩ := key
  exact ⟨l, hl, fun H => call_fz Tryz.func11 rfl ok_DrawRA rfl (by simp only [fz_cons, fz_nil, go_sem, and_self]) hp H⟩
end
end
end Go.Proofs.YtnejoidfbgklbaaGreatDoor
