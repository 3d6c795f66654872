/- Contracts: draws of numbers. Contracts: draws out of lists, of bytes, of keys. Contracts: draws of claims and messages. Contracts: SameRecords, both sides. Contracts: draws of views. Contracts: draws of views with services. -/
import Derived.Test.YtnejoidfbgklbaaGreatDoorNA
namespace Go.Proofs.YtnejoidfbgklbaaGreatDoor
open Go Go.RowKit Go.Proofs.YtnejoidfbgklbaaGreatDoor.Eng
set_option linter.unusedSimpArgs false
set_option linter.unusedVariables false
set_option maxRecDepth 100000
set_option maxHeartbeats 4000000
noncomputable section
/-- The next number below n, at place a of a code. -/
def nextV (code : List Int) (a : Nat) (n : Int) : Int :=
  if n < 1 then 0 else if code.length = 0 then ((a : Int) * 7) % n else
    let v0 := code.getD (a % code.length) 0 + ((a / code.length : Nat) : Int) * 37
    let v1 := if 200 < n then v0 * 251 + code.getD ((a + 1) % code.length) 0 * 13 + a else v0
    let v2 := if 60000 < n then v1 * 257 + code.getD ((a + 2) % code.length) 0 else v1
    v2 % n
theorem nextV_b (code : List Int) (a : Nat) {n : Int} (hn : 1 ≤ n) : 0 ≤ nextV code a n ∧ nextV code a n < n := by
  unfold nextV
  rw [if_neg (by omega)]
  split
  · exact ⟨Int.emod_nonneg _ (by omega), Int.emod_lt_of_pos _ (by omega)⟩
  · exact ⟨Int.emod_nonneg _ (by omega), Int.emod_lt_of_pos _ (by omega)⟩
theorem nextV_0 (code : List Int) (a : Nat) {n : Int} (hn : n < 1) : nextV code a n = 0 := by unfold nextV; rw [if_pos hn]
theorem getD_of {l : List Int} {i : Nat} {z : Int} (h : l[i]? = some z) : l.getD i 0 = z := by simp [List.getD, h]
theorem ok_Next : fnOk Tryz.prog cfg0 23 Tryz.f23 = true := by kernel_rfl
theorem nextE {code : List Int} (hb : Eng.Bytes code) (hl : code.length ≤ 1048576) {a : Nat} (ha : a ≤ 1000000000) (n : Int) (hn : n ≤ 1000000) {H : Hp} {b : Nat} (hS : H.h b = some [bytesL code, .v (.int .i64 (a : Nat))]) :
    call Tryz.prog cfg0 0 23 [.ptr b 0, .v (.int .i64 n)] H = some (.v (.int .i64 (nextV code a n)), H.set b [bytesL code, .v (.int .i64 ((a + 1 : Nat) : Int))]) := by
  have key : ∃ r, body Tryz.prog cfg0 23 Tryz.f23 [.ptr b 0, .v (.int .i64 n)] H = some r ∧ (r.1 = .v (.int .i64 (nextV code a n)) ∧ r.2 = H.set b [bytesL code, .v (.int .i64 ((a + 1 : Nat) : Int))]) := by
    refine body_wp (rs := [.tmp 4]) rfl rfl (R := fun x H' => x = .v (.int .i64 (nextV code a n)) ∧ H' = H.set b [bytesL code, .v (.int .i64 ((a + 1 : Nat) : Int))]) ?_
    have hp0 : ∀ b, cfg0.pol 23 b = 0 := fun b => rfl
    have w1 : IntKind.wrap .i64 (((a : Nat) : Int) + 1) = ((a + 1 : Nat) : Int) := wrap_succ (by omega)
    have w2 : IntKind.wrap .i64 (((a + 1 : Nat) : Int) - 1) = ((a : Nat) : Int) := by rw [wrap_i64 (by omega) (by omega)]; omega
    by_cases h1 : n < 1
    · have e : nextV code a n = 0 := nextV_0 code a h1
      rw [e]
      (have hF := an hp0 <| an hS <| an w1 <| h1; have hc := trivial; repeat' (first | refine wK ?_ | refine wX ?_ | refine rR ?_ | refine rB ?_ ?_ <;> intro ht <;> try simp only [bbs] at ht | refine rG ?_ ?_ <;> intro hc | refine rZ ?_ | refine wQ ?_))
      all_goals try exact False.elim kk
      all_goals (constructor <;> first | trivial | rfl)
    have hn0 : ¬ n = 0 := by omega
    by_cases hk0 : code.length = 0
    · have e : nextV code a n = ((a : Int) * 7) % n := by unfold nextV; rw [if_neg h1, if_pos hk0]
      have w3 : IntKind.wrap .i64 (((a : Nat) : Int) * 7) = (a : Int) * 7 := wrap_i64 (by omega) (by omega)
      have w4 : (((a : Nat) : Int) * 7).tmod n = (a : Int) * 7 % n := Int.tmod_eq_emod_of_nonneg (by omega)
      have hk1 : ((code.length : Nat) : Int) = 0 := by omega
      rw [e]
      (have hF := an hp0 <| an hS <| an w1 <| an w2 <| an w3 <| an w4 <| an h1 <| an hn0 <| hk1; have hc := trivial; repeat' (first | refine wK ?_ | refine wX ?_ | refine rR ?_ | refine rB ?_ ?_ <;> intro ht <;> try simp only [bbs] at ht | refine rG ?_ ?_ <;> intro hc | refine rZ ?_ | refine wQ ?_))
      all_goals try exact False.elim kk
      all_goals (constructor <;> first | trivial | rfl)
    have hkp : 0 < code.length := by omega
    obtain ⟨z0, g0, -, m0⟩ := at_drop (l := code) (j := a % code.length) (Nat.mod_lt _ hkp)
    obtain ⟨z1, g1, -, m1⟩ := at_drop (l := code) (j := (a + 1) % code.length) (Nat.mod_lt _ hkp)
    obtain ⟨z2, g2, -, m2⟩ := at_drop (l := code) (j := (a + 2) % code.length) (Nat.mod_lt _ hkp)
    have b0 := hb z0 m0
    have b1 := hb z1 m1
    have b2 := hb z2 m2
    have hq0 : a / code.length ≤ a := Nat.div_le_self _ _
    generalize hqd : a / code.length = qd at hq0
    have t0 : ((a : Nat) : Int).tmod ((code.length : Nat) : Int) = ((a % code.length : Nat) : Int) := by rw [Int.tmod_eq_emod_of_nonneg (by omega)]; rfl
    have t1 : ((a + 1 : Nat) : Int).tmod ((code.length : Nat) : Int) = (((a + 1) % code.length : Nat) : Int) := by rw [Int.tmod_eq_emod_of_nonneg (by omega)]; rfl
    have t2 : ((a + 2 : Nat) : Int).tmod ((code.length : Nat) : Int) = (((a + 2) % code.length : Nat) : Int) := by rw [Int.tmod_eq_emod_of_nonneg (by omega)]; rfl
    have d0 : IntKind.wrap .i64 (((a : Nat) : Int).tdiv ((code.length : Nat) : Int)) = ((qd : Nat) : Int) := by
      rw [Int.tdiv_eq_ediv_of_nonneg (by omega), ← hqd]
      show IntKind.wrap .i64 (((a / code.length : Nat) : Int)) = _
      rw [hqd]; exact wrap_i64 (by omega) (by omega)
    have w3 : IntKind.wrap .i64 (((qd : Nat) : Int) * 37) = (qd : Int) * 37 := wrap_i64 (by omega) (by omega)
    have w4 : IntKind.wrap .i64 z0 = z0 := wrap_i64 (by omega) (by omega)
    have w5 : IntKind.wrap .i64 (z0 + (qd : Int) * 37) = z0 + (qd : Int) * 37 := wrap_i64 (by omega) (by omega)
    have w6 : IntKind.wrap .i64 z1 = z1 := wrap_i64 (by omega) (by omega)
    have w7 : IntKind.wrap .i64 z2 = z2 := wrap_i64 (by omega) (by omega)
    have wa2 : IntKind.wrap .i64 (((a : Nat) : Int) + 2) = ((a + 2 : Nat) : Int) := by rw [wrap_i64 (by omega) (by omega)]; omega
    have hk1 : ¬ ((code.length : Nat) : Int) = 0 := by omega
    have e : nextV code a n = (if 60000 < n then (if 200 < n then (z0 + (qd : Int) * 37) * 251 + z1 * 13 + a else z0 + (qd : Int) * 37) * 257 + z2 else (if 200 < n then (z0 + (qd : Int) * 37) * 251 + z1 * 13 + a else z0 + (qd : Int) * 37)) % n := by
      unfold nextV
      rw [if_neg h1, if_neg hk0, getD_of g0, getD_of g1, getD_of g2, hqd]
    rw [e]
    by_cases hn2 : 200 < n
    · have w8 : IntKind.wrap .i64 ((z0 + (qd : Int) * 37) * 251) = (z0 + (qd : Int) * 37) * 251 := wrap_i64 (by omega) (by omega)
      have w9 : IntKind.wrap .i64 (z1 * 13) = z1 * 13 := wrap_i64 (by omega) (by omega)
      have w10 : IntKind.wrap .i64 ((z0 + (qd : Int) * 37) * 251 + z1 * 13) = (z0 + (qd : Int) * 37) * 251 + z1 * 13 := wrap_i64 (by omega) (by omega)
      have w11 : IntKind.wrap .i64 ((z0 + (qd : Int) * 37) * 251 + z1 * 13 + (a : Nat)) = (z0 + (qd : Int) * 37) * 251 + z1 * 13 + (a : Nat) := wrap_i64 (by omega) (by omega)
      by_cases hn6 : 60000 < n
      · have w12 : IntKind.wrap .i64 (((z0 + (qd : Int) * 37) * 251 + z1 * 13 + (a : Nat)) * 257) = ((z0 + (qd : Int) * 37) * 251 + z1 * 13 + (a : Nat)) * 257 := wrap_i64 (by omega) (by omega)
        have w13 : IntKind.wrap .i64 (((z0 + (qd : Int) * 37) * 251 + z1 * 13 + (a : Nat)) * 257 + z2) = ((z0 + (qd : Int) * 37) * 251 + z1 * 13 + (a : Nat)) * 257 + z2 := wrap_i64 (by omega) (by omega)
        have w14 : (((z0 + (qd : Int) * 37) * 251 + z1 * 13 + (a : Nat)) * 257 + z2).tmod n = (((z0 + (qd : Int) * 37) * 251 + z1 * 13 + (a : Nat)) * 257 + z2) % n := Int.tmod_eq_emod_of_nonneg (by omega)
        rw [if_pos hn6, if_pos hn2]
        (have hF := an hp0 <| an hS <| an w1 <| an w2 <| an w3 <| an w4 <| an w5 <| an w6 <| an w7 <| an wa2 <| an w8 <| an w9 <| an w10 <| an w11 <| an w12 <| an w13 <| an w14 <| an t0 <| an t1 <| an t2 <| an d0 <| an g0 <| an g1 <| an g2 <| an h1 <| an hn0 <| an hk1 <| an hn2 <| an hn6 <| (aconv_int u5 u2); have hc := trivial; repeat' (first | refine wK ?_ | refine wX ?_ | refine rR ?_ | refine rB ?_ ?_ <;> intro ht <;> try simp only [bbs] at ht | refine rG ?_ ?_ <;> intro hc | refine rZ ?_ | refine wQ ?_))
        all_goals try exact False.elim kk
        all_goals (constructor <;> first | trivial | rfl)
      · have w14 : ((z0 + (qd : Int) * 37) * 251 + z1 * 13 + (a : Nat)).tmod n = ((z0 + (qd : Int) * 37) * 251 + z1 * 13 + (a : Nat)) % n := Int.tmod_eq_emod_of_nonneg (by omega)
        rw [if_neg hn6, if_pos hn2]
        (have hF := an hp0 <| an hS <| an w1 <| an w2 <| an w3 <| an w4 <| an w5 <| an w6 <| an w8 <| an w9 <| an w10 <| an w11 <| an w14 <| an t0 <| an t1 <| an d0 <| an g0 <| an g1 <| an h1 <| an hn0 <| an hk1 <| an hn2 <| an hn6 <| (aconv_int u5 u2); have hc := trivial; repeat' (first | refine wK ?_ | refine wX ?_ | refine rR ?_ | refine rB ?_ ?_ <;> intro ht <;> try simp only [bbs] at ht | refine rG ?_ ?_ <;> intro hc | refine rZ ?_ | refine wQ ?_))
        all_goals try exact False.elim kk
        all_goals (constructor <;> first | trivial | rfl)
    · have hn6 : ¬ 60000 < n := by omega
      have w14 : (z0 + (qd : Int) * 37).tmod n = (z0 + (qd : Int) * 37) % n := Int.tmod_eq_emod_of_nonneg (by omega)
      rw [if_neg hn6, if_neg hn2]
      (have hF := an hp0 <| an hS <| an w1 <| an w2 <| an w3 <| an w4 <| an w5 <| an w14 <| an t0 <| an d0 <| an g0 <| an h1 <| an hn0 <| an hk1 <| an hn2 <| an hn6 <| (aconv_int u5 u2); have hc := trivial; repeat' (first | refine wK ?_ | refine wX ?_ | refine rR ?_ | refine rB ?_ ?_ <;> intro ht <;> try simp only [bbs] at ht | refine rG ?_ ?_ <;> intro hc | refine rZ ?_ | refine wQ ?_))
      all_goals try exact False.elim kk
      all_goals (constructor <;> first | trivial | rfl)
  obtain ⟨⟨v, H'⟩, h1, rfl, rfl⟩ := key
  rw [call_raw Tryz.prog cfg0 Tryz.func23 rfl ok_Next rfl rfl, h1]
end
end Go.Proofs.YtnejoidfbgklbaaGreatDoor
namespace Go.Proofs.YtnejoidfbgklbaaGreatDoor
open Go Go.RowKit Go.Proofs.YtnejoidfbgklbaaGreatDoor.Eng
set_option linter.unusedSimpArgs false
set_option linter.unusedVariables false
set_option maxRecDepth 100000
set_option maxHeartbeats 4000000
noncomputable section
/-- A code that may be drawn from. -/
def CodeOk (code : List Int) : Prop := Eng.Bytes code ∧ code.length ≤ 1048576
/-- Block b is a source at place a of a code. -/
def Src (H : Hp) (b : Nat) (code : List Int) (a : Nat) : Prop := H.h b = some [bytesL code, .v (.int .i64 (a : Nat))] ∧ b < H.g
/-- Nothing but block b was written. -/
def Fr (b : Nat) (H K : Hp) : Prop := H.g ≤ K.g ∧ ∀ b', b' < H.g → b' ≠ b → K.h b' = H.h b'
theorem Fr.refl (b : Nat) (H : Hp) : Fr b H H := ⟨Nat.le_refl _, fun _ _ _ => rfl⟩
theorem Fr.trans {b : Nat} {H K L : Hp} (h : Fr b H K) (k : Fr b K L) : Fr b H L := ⟨Nat.le_trans h.1 k.1, fun b' h1 h2 => (k.2 b' (Nat.lt_of_lt_of_le h1 h.1) h2).trans (h.2 b' h1 h2)⟩
theorem Fr.new {b : Nat} {H K : Hp} (h : Fr b H K) (cs : List AV) : Fr b H (K.new cs) := ⟨by simp; have := h.1; omega, fun b' h1 h2 => by have := h.1; rw [Hp.new_h, if_neg (by omega)]; exact h.2 b' h1 h2⟩
theorem Fr.setB {b : Nat} {H K : Hp} (h : Fr b H K) (cs : List AV) : Fr b H (K.set b cs) := ⟨h.1, fun b' h1 h2 => by rw [Hp.set_h, if_neg h2]; exact h.2 b' h1 h2⟩
theorem Fr.setN {b p : Nat} {H K : Hp} (h : Fr b H K) (hp : H.g ≤ p) (cs : List AV) : Fr b H (K.set p cs) := ⟨h.1, fun b' h1 h2 => by rw [Hp.set_h, if_neg (by omega)]; exact h.2 b' h1 h2⟩
theorem Src.fr {b b' : Nat} {H K : Hp} {code : List Int} {a : Nat} (h : Src H b code a) (f : Fr b' H K) (hne : b ≠ b') : Src K b code a := ⟨(f.2 b h.2 hne).trans h.1, Nat.lt_of_lt_of_le h.2 f.1⟩
theorem Src.ext {b : Nat} {H K : Hp} {code : List Int} {a : Nat} (h : Src H b code a) (hg : H.g ≤ K.g) (hk : K.h b = H.h b) : Src K b code a := ⟨hk.trans h.1, Nat.lt_of_lt_of_le h.2 hg⟩
section
variable {code : List Int} {a : Nat} {H : Hp} {b : Nat} {q : Option (AV × Hp)}
theorem d_Next (hco : CodeOk code) (hS : Src H b code a) (ha : a ≤ 1000000000) {n : Int} (hn : n ≤ 1000000) (hq : call Tryz.prog cfg0 0 23 [.ptr b 0, .v (.int .i64 n)] H = q) :
    ∃ v H', q = some (.v (.int .i64 v), H') ∧ (0 ≤ v ∧ (1 ≤ n → v < n) ∧ (n < 1 → v = 0)) ∧ Src H' b code (a + 1) ∧ Fr b H H' ∧ H'.g = H.g := by
  refine ⟨_, _, hq.symm.trans (nextE hco.1 hco.2 ha n hn hS.1), ?_, ⟨by simp [Hp.set_h], hS.2⟩, (Fr.refl b H).setB _, rfl⟩
  by_cases h : 1 ≤ n
  · have := nextV_b code a h
    exact ⟨this.1, fun _ => this.2, by omega⟩
  · have := nextV_0 code a (n := n) (by omega)
    rw [this]
    exact ⟨by omega, by omega, fun _ => rfl⟩
theorem ok_Source : fnOk Tryz.prog cfg0 21 Tryz.f21 = true := by kernel_rfl
theorem d_Source (code : List Int) (H : Hp) : call Tryz.prog cfg0 0 21 [bytesL code] H = some (.ptr H.g 0, H.new [bytesL code, .v (.int .i64 ((0 : Nat) : Int))]) := by
  have key : ∃ r, body Tryz.prog cfg0 21 Tryz.f21 [bytesL code] H = some r ∧ (r.1 = .ptr H.g 0 ∧ r.2 = H.new [bytesL code, .v (.int .i64 ((0 : Nat) : Int))]) := by
    refine body_wp (rs := [.tmp 2]) rfl rfl (R := fun x H' => x = .ptr H.g 0 ∧ H' = H.new [bytesL code, .v (.int .i64 ((0 : Nat) : Int))]) ?_
    have hp0 : ∀ b, cfg0.pol 21 b = 0 := fun b => rfl
    (have hF := hp0; have hc := trivial; repeat' (first | refine wK ?_ | refine wX ?_ | refine rR ?_ | refine rB ?_ ?_ <;> intro ht <;> try simp only [bbs] at ht | refine rG ?_ ?_ <;> intro hc | refine rZ ?_ | refine wQ ?_))
    all_goals (constructor <;> first | trivial | rfl)
  obtain ⟨⟨v, H'⟩, h1, rfl, rfl⟩ := key
  rw [call_raw Tryz.prog cfg0 Tryz.func21 rfl ok_Source rfl rfl, h1]
theorem ok_Chance : fnOk Tryz.prog cfg0 38 Tryz.f38 = true := by kernel_rfl
theorem d_Chance (hco : CodeOk code) (hS : Src H b code a) (ha : a ≤ 1000000000) {n : Int} (hn : n ≤ 1000000) (hq : call Tryz.prog cfg0 0 38 [.ptr b 0, .v (.int .i64 n)] H = q) :
    ∃ v H', q = some (.v (.bool v), H') ∧ Src H' b code (a + 1) ∧ Fr b H H' ∧ H'.g = H.g := by
  subst hq
  have key : ∃ r, body Tryz.prog cfg0 38 Tryz.f38 [.ptr b 0, .v (.int .i64 n)] H = some r ∧ (∃ v, r.1 = .v (.bool v) ∧ Src r.2 b code (a + 1) ∧ Fr b H r.2 ∧ r.2.g = H.g) := by
    refine body_wp (rs := [.tmp 4]) rfl rfl (R := fun x H' => ∃ v, x = .v (.bool v) ∧ Src H' b code (a + 1) ∧ Fr b H H' ∧ H'.g = H.g) ?_
    have hp0 : ∀ b, cfg0.pol 38 b = 0 := fun b => rfl
    (have hF := hp0; have hc := trivial; repeat' ((fail_if_success (first | refine wAt 1 ?_ | refine wAtL 1 ?_)); first | refine wK ?_ | refine wX ?_ | refine rR ?_ | refine rB ?_ ?_ <;> intro ht <;> try simp only [bbs] at ht | refine rG ?_ ?_ <;> intro hc | refine rZ ?_ | refine wQ ?_))
    have hF := hp0; have hc := trivial; (try refine wX ?_); refine rN (fun xx hx => ?_); generalize hq : call Tryz.prog cfg0 0 _ _ _ = q at hx
    obtain ⟨v, H', rfl, h1, h2, h3, h4⟩ := d_Next hco hS ha hn hq
    (subst hx; have hF := hp0; have hc := trivial; repeat' (first | refine rR ?_ | refine rG ?_ ?_ <;> intro hc | refine rZ ?_ | fail))
    (have hF := hp0; have hc := trivial; repeat' (first | refine wK ?_ | refine wX ?_ | refine rR ?_ | refine rB ?_ ?_ <;> intro ht <;> try simp only [bbs] at ht | refine rG ?_ ?_ <;> intro hc | refine rZ ?_ | refine wQ ?_))
    exact ⟨_, rfl, h2, h3, h4⟩
  obtain ⟨⟨x, H'⟩, h1, v, rfl, h2, h3, h4⟩ := key
  exact ⟨v, H', by rw [call_raw Tryz.prog cfg0 Tryz.func38 rfl ok_Chance rfl rfl, h1], h2, h3, h4⟩
theorem ok_Pick : fnOk Tryz.prog cfg0 24 Tryz.f24 = true := by kernel_rfl
theorem d_Pick (l : List Int) (hne : 0 < l.length ∧ l.length ≤ 1000) (hco : CodeOk code) (hS : Src H b code a) (ha : a ≤ 1000000000) (hq : call Tryz.prog cfg0 0 24 [.ptr b 0, .lst true (l.map fun z => [AV.v (.int .i64 z)])] H = q) :
    ∃ v H', q = some (.v (.int .i64 v), H') ∧ v ∈ l ∧ Src H' b code (a + 1) ∧ Fr b H H' ∧ H'.g = H.g := by
  subst hq
  have key : ∃ r, body Tryz.prog cfg0 24 Tryz.f24 [.ptr b 0, .lst true (l.map fun z => [AV.v (.int .i64 z)])] H = some r ∧ (∃ v, r.1 = .v (.int .i64 v) ∧ v ∈ l ∧ Src r.2 b code (a + 1) ∧ Fr b H r.2 ∧ r.2.g = H.g) := by
    refine body_wp (rs := [.tmp 4]) rfl rfl (R := fun x H' => ∃ v, x = .v (.int .i64 v) ∧ v ∈ l ∧ Src H' b code (a + 1) ∧ Fr b H H' ∧ H'.g = H.g) ?_
    have hp0 : ∀ b, cfg0.pol 24 b = 0 := fun b => rfl
    (have hF := hp0; have hc := trivial; repeat' ((fail_if_success (first | refine wAt 1 ?_ | refine wAtL 1 ?_)); first | refine wK ?_ | refine wX ?_ | refine rR ?_ | refine rB ?_ ?_ <;> intro ht <;> try simp only [bbs] at ht | refine rG ?_ ?_ <;> intro hc | refine rZ ?_ | refine wQ ?_))
    have hF := an hp0 <| @List.length_map.{0,0}; have hc := trivial; (try refine wX ?_); refine rN (fun xx hx => ?_); generalize hq : call Tryz.prog cfg0 0 _ _ _ = q at hx
    obtain ⟨v, H', rfl, h1, h2, h3, h4⟩ := d_Next hco hS ha (by omega) hq
    have hv := h1.2.1 (by omega)
    obtain ⟨z, hz, -, hm⟩ := at_drop (l := l) (j := v.toNat) (by omega)
    have hz' : (l.map fun z => [AV.v (.int .i64 z)])[v.toNat]? = some [.v (.int .i64 z)] := by rw [List.getElem?_map, hz]; rfl
    have hnat : natOf (.v (.int .i64 v)) = some v.toNat := by simp only [natOf]; rw [if_pos h1.1]
    (subst hx; have hF := an hp0 <| an hnat <| hz'; have hc := trivial; repeat' (first | refine rR ?_ | refine rG ?_ ?_ <;> intro hc | refine rZ ?_ | fail))
    (have hF := hp0; have hc := trivial; repeat' (first | refine wK ?_ | refine wX ?_ | refine rR ?_ | refine rB ?_ ?_ <;> intro ht <;> try simp only [bbs] at ht | refine rG ?_ ?_ <;> intro hc | refine rZ ?_ | refine wQ ?_))
    exact ⟨_, rfl, hm, h2, h3, h4⟩
  obtain ⟨⟨x, H'⟩, h1, v, rfl, h2, h3, h4, h5⟩ := key
  exact ⟨v, H', by rw [call_raw Tryz.prog cfg0 Tryz.func24 rfl ok_Pick rfl rfl, h1], h2, h3, h4, h5⟩
theorem ok_Some : fnOk Tryz.prog cfg0 32 Tryz.f32 = true := by kernel_rfl
/-- So many drawn bytes, in a block of their own. -/
theorem d_Some (hco : CodeOk code) (hS : Src H b code a) (n : Nat) (hn : n ≤ 100000) (ha : a + n ≤ 1000000000) {n' : Int} (hn' : n' = n) (hq : call Tryz.prog cfg0 0 32 [.ptr b 0, .v (.int .i64 n')] H = q) :
    ∃ x H' l, q = some (x, H') ∧ Eng.Bytes l ∧ l.length = n ∧ RAcc H' x 1 (l.map cell) n ∧ (∀ p, p < H.g → Off p x) ∧ Src H' b code (a + n) ∧ Fr b H H' := by
  subst hq
  subst hn'
  have key : ∃ r, body Tryz.prog cfg0 32 Tryz.f32 [.ptr b 0, .v (.int .i64 (n : Nat))] H = some r ∧ (∃ l, Eng.Bytes l ∧ l.length = n ∧ RAcc r.2 r.1 1 (l.map cell) n ∧ (∀ p, p < H.g → Off p r.1) ∧ Src r.2 b code (a + n) ∧ Fr b H r.2) := by
    refine body_wp (rs := [.tmp 4]) rfl rfl (R := fun x H' => ∃ l, Eng.Bytes l ∧ l.length = n ∧ RAcc H' x 1 (l.map cell) n ∧ (∀ p, p < H.g → Off p x) ∧ Src H' b code (a + n) ∧ Fr b H H') ?_
    have hp0 : ∀ b, cfg0.pol 32 b = 0 := fun b => rfl
    (have hF := hp0; have hc := trivial; repeat' (first | refine wK ?_ | refine wX ?_ | refine rR ?_ | refine rB ?_ ?_ <;> intro ht <;> try simp only [bbs] at ht | refine rG ?_ ?_ <;> intro hc | refine rZ ?_ | refine wQ ?_))
    refine wLoop (fun k s => ∃ (j : Nat) (x : AV) (l : List Int), j + k = n ∧ s.1 0 = .ptr b 0 ∧ s.1 1 = .v (.int .i64 ((n : Int) - (j : Nat))) ∧ s.1 5 = x ∧ (Eng.Bytes l ∧ l.length = j) ∧ (RAcc s.2 x 1 (l.map cell) j) ∧ (∀ p, p < H.g → Off p x) ∧ (Src s.2 b code (a + j)) ∧ (Fr b H s.2)) (fun k s hI => ?_) (n) _ ?_
    · obtain ⟨e, K⟩ := s
      obtain ⟨j, x, l, hj, h0, h1, h5, hb1, hr, hoff, hsrc, hfr⟩ := hI
      simp only at h0 h1 h5 hb1 hr hoff hsrc hfr
      by_cases hlt : j < n
      · have hgt : 0 < (n : Int) - ((j : Nat) : Int) := by omega
        (have hF := an hp0 <| an h1 <| hgt; have hc := trivial; repeat' ((fail_if_success (first | refine wAt 4 ?_ | refine wAtL 4 ?_)); first | refine wK ?_ | refine wX ?_ | refine rR ?_ | refine rB ?_ ?_ <;> intro ht <;> try simp only [bbs] at ht | refine rG ?_ ?_ <;> intro hc | refine rZ ?_ | refine wQ ?_))
        all_goals try exact False.elim kk
        have hF := an hp0 <| an h0 <| h5; have hc := trivial; (try refine wX ?_); refine rN (fun xx hx => ?_); generalize hq : call Tryz.prog cfg0 0 _ _ _ = q at hx
        obtain ⟨v, K1, rfl, v1, s1, f1, g1⟩ := d_Next hco hsrc (by omega) (by omega) hq
        clear hq
        have v2 := v1.2.1 (by omega)
        have w8 : IntKind.wrap .u8 v = v := wrap_u8 v1.1 (by omega)
        have w1 : IntKind.wrap .i64 ((n : Int) - ((j : Nat) : Int) - 1) = (n : Int) - ((j + 1 : Nat) : Int) := by rw [wrap_i64 (by omega) (by omega)]; omega
        subst hx; have hF := an hp0 <| an h5 <| an w8 <| (aconv_int u2 u5); have hc := trivial; refine rN (fun xx hx => ?_); generalize hq : aappend Tryz.prog _ _ _ _ = q at hx
        have hxb : Off b x := hoff b hS.2
        have hr1 : RAcc K1 x 1 (l.map cell) j := hr.keep (by omega) fun p hp ho => f1.2 p hp (fun e => ho (e ▸ hxb))
        obtain ⟨x', K2, rfl, hacc, hg2, hk2, ho2⟩ := app_rows hq el22 zero5 by5 int22 (sz := 1) rfl (by omega) hr1 (m := 1) rfl (afirst_one _ _ [cell v]) rfl (by omega) (by omega)
        (subst hx; have hF := hp0; have hc := trivial; repeat' (first | refine rR ?_ | refine rG ?_ ?_ <;> intro hc | refine rZ ?_ | fail))
        (have hF := an hp0 <| an h1 <| w1; have hc := trivial; repeat' (first | refine wK ?_ | refine wX ?_ | refine rR ?_ | refine rB ?_ ?_ <;> intro ht <;> try simp only [bbs] at ht | refine rG ?_ ?_ <;> intro hc | refine rZ ?_ | refine wQ ?_))
        all_goals try exact False.elim kk
        have hfg := hfr.1
        have hS := an h0 <| an h1 <| h5; refine ⟨_, Nat.sub_lt (by omega) Nat.one_pos, j + 1, x', l ++ [v], by omega, sl, sl, sl, ?_⟩
        have hbg : b < K1.g := s1.2
        have hg21 : H.g ≤ K1.g := by omega
        have hoff' : ∀ p, p < H.g → Off p x' := fun p hp => ho2 p (by omega) (hoff p hp)
        have hfr' : Fr b H K2 := ⟨by omega, fun p h1 h2 => (hk2 p (by omega) (hoff p h1)).trans ((f1.2 p (by omega) h2).trans (hfr.2 p h1 h2))⟩
        have hbg2 : b < K2.g := by omega
        refine ⟨⟨fun z hz => ?_, by simp [hb1.2]⟩, by simpa using hacc, hoff', ⟨(hk2 b hbg hxb).trans s1.1, hbg2⟩, hfr'⟩
        · rcases List.mem_append.1 hz with hz | hz
          · exact hb1.1 z hz
          · simp only [List.mem_singleton] at hz; omega
      · have hj' : j = n := by omega
        have hgt : ¬ 0 < (n : Int) - ((j : Nat) : Int) := by omega
        (have hF := an hp0 <| an h0 <| an h1 <| an h5 <| hgt; have hc := trivial; repeat' (first | refine wK ?_ | refine wX ?_ | refine rR ?_ | refine rB ?_ ?_ <;> intro ht <;> try simp only [bbs] at ht | refine rG ?_ ?_ <;> intro hc | refine rZ ?_ | refine wQ ?_))
        all_goals try exact False.elim kk
        subst hj'
        exact ⟨l, hb1.1, hb1.2, hr, hoff, hsrc, hfr⟩
    · refine ⟨0, .lst true [], [], by omega, rfl, ?_, rfl, ⟨fun z hz => by simp at hz, rfl⟩, RAcc.lst, fun p _ => off_lst, hS, Fr.refl _ _⟩
      simp only [upd_eq, Nat.reduceEqDiff, if_false]
      show AV.v (.int .i64 (n : Nat)) = _
      simp
  obtain ⟨⟨x, H'⟩, h1, l, h2, h3, h4, h5, h6, h7⟩ := key
  exact ⟨x, H', l, by rw [call_raw Tryz.prog cfg0 Tryz.func32 rfl ok_Some rfl rfl, h1], h2, h3, h4, h5, h6, h7⟩
end
end
end Go.Proofs.YtnejoidfbgklbaaGreatDoor
namespace Go.Proofs.YtnejoidfbgklbaaGreatDoor
open Go Go.RowKit Go.Proofs.YtnejoidfbgklbaaGreatDoor.Eng
set_option linter.unusedSimpArgs false
set_option linter.unusedVariables false
set_option maxRecDepth 100000
set_option maxHeartbeats 4000000
noncomputable section
section
variable {code : List Int} {a : Nat} {H : Hp} {b : Nat} {q : Option (AV × Hp)}
theorem ok_Claim : fnOk Tryz.prog cfg0 72 Tryz.f72 = true := by kernel_rfl
theorem d_Claim (hco : CodeOk code) (hS : Src H b code a) (ha : a ≤ 999000000) (hq : call Tryz.prog cfg0 0 72 [.ptr b 0] H = q) :
    ∃ (c : ClaimM) (H' : Hp), q = some (.agg [.v (.int .i64 c.Node), .v (.int .i64 c.Inc), .v (.int .i64 c.Status), .v (.int .i64 c.Meta)], H') ∧ (0 ≤ c.Node ∧ c.Node ≤ 3 ∧ 0 ≤ c.Inc ∧ c.Inc ≤ 1000000 ∧ 0 ≤ c.Status ∧ c.Status ≤ 2 ∧ 0 ≤ c.Meta ∧ c.Meta ≤ 9999999) ∧ Src H' b code (a + 4) ∧ Fr b H H' := by
  subst hq
  have key : ∃ r, body Tryz.prog cfg0 72 Tryz.f72 [.ptr b 0] H = some r ∧ (∃ (c : ClaimM), r.1 = .agg [.v (.int .i64 c.Node), .v (.int .i64 c.Inc), .v (.int .i64 c.Status), .v (.int .i64 c.Meta)] ∧ (0 ≤ c.Node ∧ c.Node ≤ 3 ∧ 0 ≤ c.Inc ∧ c.Inc ≤ 1000000 ∧ 0 ≤ c.Status ∧ c.Status ≤ 2 ∧ 0 ≤ c.Meta ∧ c.Meta ≤ 9999999) ∧ Src r.2 b code (a + 4) ∧ Fr b H r.2) := by
    refine body_wp (rs := [.cell 2 103]) rfl rfl (R := fun x H' => ∃ (c : ClaimM), x = .agg [.v (.int .i64 c.Node), .v (.int .i64 c.Inc), .v (.int .i64 c.Status), .v (.int .i64 c.Meta)] ∧ (0 ≤ c.Node ∧ c.Node ≤ 3 ∧ 0 ≤ c.Inc ∧ c.Inc ≤ 1000000 ∧ 0 ≤ c.Status ∧ c.Status ≤ 2 ∧ 0 ≤ c.Meta ∧ c.Meta ≤ 9999999) ∧ Src H' b code (a + 4) ∧ Fr b H H') ?_
    have hp0 : ∀ b, cfg0.pol 72 b = 0 := fun b => rfl
    have hbg := hS.2
    (have hF := hp0; have hc := trivial; repeat' ((fail_if_success (first | refine wAt 1 ?_ | refine wAtL 1 ?_)); first | refine wK ?_ | refine wX ?_ | refine rR ?_ | refine rB ?_ ?_ <;> intro ht <;> try simp only [bbs] at ht | refine rG ?_ ?_ <;> intro hc | refine rZ ?_ | refine wQ ?_))
    have hF := hp0; have hc := trivial; (try refine wX ?_); refine rN (fun xx hx => ?_); generalize hq : call Tryz.prog cfg0 0 _ _ _ = q at hx
    have S0 : Src (H.new [.v (.int .i64 0), .v (.int .i64 0), .v (.int .i64 0), .v (.int .i64 0)]) b code a := hS.ext (by simp) (by rw [Hp.new_h, if_neg (by omega)])
    have F0 : Fr b H (H.new [.v (.int .i64 0), .v (.int .i64 0), .v (.int .i64 0), .v (.int .i64 0)]) := (Fr.refl b H).new _
    obtain ⟨v1, H1, rfl, b1, S1, F1, G1⟩ := d_Next hco S0 (by omega) (by omega) hq
    clear hq
    subst hx; have hF := hp0; have hc := trivial; refine rN (fun xx hx => ?_); generalize hq : call Tryz.prog cfg0 0 _ _ _ = q at hx
    obtain ⟨v2, H2, rfl, b2, S2, F2, G2⟩ := d_Pick [0, 1, 2, 3, 1000000] (by simp) hco S1 (by omega) hq
    clear hq
    subst hx; have hF := hp0; have hc := trivial; refine rN (fun xx hx => ?_); generalize hq : call Tryz.prog cfg0 0 _ _ _ = q at hx
    obtain ⟨v3, H3, rfl, b3, S3, F3, G3⟩ := d_Next hco S2 (by omega) (by omega) hq
    clear hq
    subst hx; have hF := hp0; have hc := trivial; refine rN (fun xx hx => ?_); generalize hq : call Tryz.prog cfg0 0 _ _ _ = q at hx
    obtain ⟨v4, H4, rfl, b4, S4, F4, G4⟩ := d_Pick [0, 80, 65616, 9999999] (by simp) hco S3 (by omega) hq
    clear hq
    have r4 : H4.h H.g = _ := (F4.2 H.g (by rw [G3, G2, G1]; simp) (by omega)).trans ((F3.2 H.g (by rw [G2, G1]; simp) (by omega)).trans ((F2.2 H.g (by rw [G1]; simp) (by omega)).trans ((F1.2 H.g (by simp) (by omega)).trans (new_same H _))))
    (subst hx; have hF := an hp0 <| r4; have hc := trivial; repeat' (first | refine rR ?_ | refine rG ?_ ?_ <;> intro hc | refine rZ ?_ | fail))
    (have hF := hp0; have hc := trivial; repeat' (first | refine wK ?_ | refine wX ?_ | refine rR ?_ | refine rB ?_ ?_ <;> intro ht <;> try simp only [bbs] at ht | refine rG ?_ ?_ <;> intro hc | refine rZ ?_ | refine wQ ?_))
    have c1 := b1.2.1 (by omega)
    have c3 := b3.2.1 (by omega)
    simp only [List.mem_cons, List.not_mem_nil, or_false] at b2 b4
    refine ⟨⟨v1, v2, v3, v4⟩, rfl, ⟨b1.1, by show v1 ≤ 3; omega, by show 0 ≤ v2; omega, by show v2 ≤ 1000000; omega, b3.1, by show v3 ≤ 2; omega, by show 0 ≤ v4; omega, by show v4 ≤ 9999999; omega⟩, S4.ext (Nat.le_refl _) (by rw [Hp.set_h, if_neg (by omega)]), (F0.trans (F1.trans (F2.trans (F3.trans F4)))).setN (Nat.le_refl _) _⟩
  obtain ⟨⟨x, H'⟩, h1, c, rfl, h2, h3, h4⟩ := key
  exact ⟨c, H', by rw [call_raw Tryz.prog cfg0 Tryz.func72 rfl ok_Claim rfl rfl, h1], h2, h3, h4⟩
end
end
end Go.Proofs.YtnejoidfbgklbaaGreatDoor
namespace Go.Proofs.YtnejoidfbgklbaaGreatDoor
open Go Go.RowKit Go.Proofs.YtnejoidfbgklbaaGreatDoor.Eng
set_option linter.unusedSimpArgs false
set_option linter.unusedVariables false
set_option maxRecDepth 100000
set_option maxHeartbeats 1000000
noncomputable section
theorem ok_EqRec : fnOk Tryz.prog cfg0 63 Tryz.f63 = true := by kernel_rfl
theorem p_EqRec (a b : List RecordM) (hl : a.length ≤ 1048576) : pure Tryz.prog cfg0 63 Tryz.f63 [.lst false (a.map encRecord), .lst false (b.map encRecord)] = some (.v (.bool (decide (a = b))), true) := by
  refine pure_wp (rs := [.tmp 4]) rfl rfl ?_
  have hp0 : ∀ b, cfg0.pol 63 b = 0 := fun b => rfl
  by_cases hlen : a.length = b.length
  rotate_left
  · have hlI : ¬ ((a.length : Nat) : Int) = (b.length : Int) := by omega
    rw [decide_eq_false (fun h => hlen (by rw [h]))]
    (have hF := an hp0 <| an hlI <| @List.length_map.{0,0}; have hc := trivial; repeat' (first | refine wK ?_ | refine wX ?_ | refine rR ?_ | refine rB ?_ ?_ <;> intro ht <;> try simp only [bbs] at ht | refine rG ?_ ?_ <;> intro hc | refine rZ ?_ | refine wQ ?_))
    all_goals try exact False.elim kk
    all_goals exact gives_boolv rfl
  have hlI : (((a.length : Nat) : Int) = (b.length : Int)) = True := eq_true (by omega)
  (have hF := an hp0 <| an hlI <| an not_true_eq_false <| @List.length_map.{0,0}; have hc := trivial; repeat' ((fail_if_success (first | refine wAt 4 ?_ | refine wAtL 4 ?_ | refine wAt 9 ?_ | refine wAtL 9 ?_)); first | refine wK ?_ | refine wX ?_ | refine rR ?_ | refine rB ?_ ?_ <;> intro ht <;> try simp only [bbs] at ht | refine rG ?_ ?_ <;> intro hc | refine rZ ?_ | refine wQ ?_))
  all_goals try exact False.elim kk
  refine wLoop (fun k s => ∃ (j : Nat), j + k = a.length ∧ s.1 0 = .lst false (a.map encRecord) ∧ s.1 1 = .lst false (b.map encRecord) ∧ s.1 12 = .v (.int .i64 (a.length : Nat)) ∧ s.1 13 = .v (.int .i64 (j : Nat)) ∧ (a.take j = b.take j)) (fun k s hI => ?_) (a.length) _ ?_
  · obtain ⟨e, H⟩ := s
    obtain ⟨j, hj, h0, h1, h12, h13, htk⟩ := hI
    simp only at h0 h1 h12 h13 htk
    by_cases hlt : j < a.length
    · obtain ⟨x, gx, -, -⟩ := at_drop hlt
      obtain ⟨y, gy, -, -⟩ := at_drop (show j < b.length by omega)
      have gx' := map_at (f := encRecord) gx
      have gy' := map_at (f := encRecord) gy
      have hltI : ((j : Nat) : Int) < (a.length : Int) := by omega
      have w4 : IntKind.wrap .i64 ((j : Nat) + 1 : Int) = ((j + 1 : Nat) : Int) := wrap_succ (by omega)
      (have hF := an hp0 <| an h0 <| an h1 <| an h12 <| an h13 <| an hltI <| an gx' <| an gy' <| an encRecord.eq_def <| an w4 <| @List.length_map.{0,0}; have hc := trivial; repeat' (first | refine wK ?_ | refine wX ?_ | refine rR ?_ | refine rB ?_ ?_ <;> intro ht <;> try simp only [bbs] at ht | refine rG ?_ ?_ <;> intro hc | refine rZ ?_ | refine wQ ?_))
      all_goals try exact False.elim kk
      all_goals first
        | (refine gives_boolv ?_
           have hne : ¬ x = y := by first | exact ht | ((try simp only [bbs] at *); rw [eq_Record]; simp_all)
           rw [decide_eq_false]
           intro h; rw [h] at gx; exact hne (Option.some.inj (gx.symm.trans gy)))
        | skip
      have hS := an h0 <| an h1 <| an h12 <| h13; refine ⟨_, Nat.sub_lt (by omega) Nat.one_pos, j + 1, by omega, sl, sl, sl, sl, ?_⟩
      have hxe : x = y := by first | exact ht | ((try simp only [bbs] at *); rw [eq_Record]; simp_all)
      rw [at_take gx, at_take gy, htk, hxe]
    · have hltI : ¬ ((j : Nat) : Int) < (a.length : Int) := by omega
      have hab : a = b := by
        rw [List.take_of_length_le (by omega), List.take_of_length_le (by omega)] at htk; exact htk
      (have hF := an hp0 <| an h0 <| an h1 <| an h12 <| an h13 <| an hltI <| @List.length_map.{0,0}; have hc := trivial; repeat' (first | refine wK ?_ | refine wX ?_ | refine rR ?_ | refine rB ?_ ?_ <;> intro ht <;> try simp only [bbs] at ht | refine rG ?_ ?_ <;> intro hc | refine rZ ?_ | refine wQ ?_))
      all_goals try exact False.elim kk
      refine gives_boolv ?_
      rw [decide_eq_true hab]
  · refine ⟨0, by omega, rfl, rfl, rfl, rfl, ?_⟩
    simp
theorem c_EqRec (a b : List RecordM) (hl : a.length ≤ 1048576) : ∀ H, call Tryz.prog cfg0 0 63 [.lst false (a.map encRecord), .lst false (b.map encRecord)] H = some (.v (.bool (decide (a = b))), H) :=
  call_fz Tryz.func63 rfl ok_EqRec rfl (by simp only [fz_cons, fz_nil, go_sem, and_self]) (p_EqRec a b hl)

-- not here: spec_SameRecords
theorem ok_iSameRecords : fnOk Tryz.prog cfg0 20 Tryz.f20 = true := by kernel_rfl
theorem p_iSameRecords (a b : List RecordM) (hl : a.length ≤ 1048576) : pure Tryz.prog cfg0 20 Tryz.f20 [.lst false (a.map encRecord), .lst false (b.map encRecord)] = some (.v (.bool (decide (a = b))), true) := by
  refine pure_wp (rs := [.tmp 4]) rfl rfl ?_
  have hp0 : ∀ b, cfg0.pol 20 b = 0 := fun b => rfl
  (have hF := an hp0 <| (c_EqRec a b hl); have hc := trivial; repeat' (first | refine wK ?_ | refine wX ?_ | refine rR ?_ | refine rB ?_ ?_ <;> intro ht <;> try simp only [bbs] at ht | refine rG ?_ ?_ <;> intro hc | refine rZ ?_ | refine wQ ?_))
  all_goals try exact False.elim kk
  all_goals exact ⟨rfl, rfl⟩
theorem c_iSameRecords (a b : List RecordM) (hl : a.length ≤ 1048576) : ∀ H, call Tryz.prog cfg0 0 20 [.lst false (a.map encRecord), .lst false (b.map encRecord)] H = some (.v (.bool (decide (a = b))), H) :=
  call_fz Tryz.func20 rfl ok_iSameRecords rfl (by simp only [fz_cons, fz_nil, go_sem, and_self]) (p_iSameRecords a b hl)

end
end Go.Proofs.YtnejoidfbgklbaaGreatDoor
namespace Go.Proofs.YtnejoidfbgklbaaGreatDoor
open Go Go.RowKit Go.Proofs.YtnejoidfbgklbaaGreatDoor.Eng
set_option linter.unusedSimpArgs false
set_option linter.unusedVariables false
set_option maxRecDepth 100000
set_option maxHeartbeats 2000000
noncomputable section
theorem flat_set {sz : Nat} : ∀ (rows : List (List AV)) (i : Nat) (r : List AV) (j : Nat) (v : AV), (∀ r ∈ rows, r.length = sz) → rows[i]? = some r → j < sz → rows.flatten.set (i * sz + j) v = (rows.set i (r.set j v)).flatten := by
  intro rows
  induction rows with
  | nil => intro i r j v _ h; simp at h
  | cons y rows ih =>
    intro i r j v hl hg hj
    have hy := hl y (by simp)
    cases i with
    | zero =>
      simp only [List.getElem?_cons_zero, Option.some.injEq] at hg; subst hg
      rw [Nat.zero_mul, Nat.zero_add, List.flatten_cons, List.set_append_left _ _ (by omega)]; rfl
    | succ i =>
      have := ih i r j v (fun x hx => hl x (by simp [hx])) (by simpa using hg) hj
      rw [List.flatten_cons, List.set_append_right _ _ (by rw [hy, Nat.add_mul]; omega), show (i + 1) * sz + j - y.length = i * sz + j by rw [hy, Nat.add_mul]; omega, this]; rfl
theorem claims_set {ms : List ClaimM} {i : Nat} {c d : ClaimM} {j : Nat} {v : AV} (hg : ms[i]? = some c) (hj : j < 4) (he : (encClaim c).set j v = encClaim d) : ((ms.map encClaim).flatten).set (i * 4 + j) v = (((ms.set i d)).map encClaim).flatten := by
  rw [flat_set (sz := 4) (ms.map encClaim) i (encClaim c) j v (fun r hr => by obtain ⟨k, -, rfl⟩ := List.mem_map.1 hr; rfl) (map_at hg) hj, he, List.map_set]
theorem flat_len (ms : List ClaimM) : ((ms.map encClaim).flatten).length = ms.length * 4 := by
  induction ms with
  | nil => rfl
  | cons c r ih => simp only [List.map_cons, List.flatten_cons, List.length_append, ih, List.length_cons]; show 4 + _ = _; omega
def COk (c : ClaimM) : Prop := 0 ≤ c.Node ∧ c.Node ≤ 3 ∧ 0 ≤ c.Inc ∧ c.Inc ≤ 1000000 ∧ 0 ≤ c.Status ∧ c.Status ≤ 2 ∧ 0 ≤ c.Meta ∧ c.Meta ≤ 9999999
/-- A list of claims in an own block. -/
def CL (H : Hp) (x : AV) (ms : List ClaimM) : Prop := RAcc H x 4 ((ms.map encClaim).flatten) ms.length
theorem CL.deep {H : Hp} {x : AV} {ms : List ClaimM} (h : CL H x ms) (n : Nat) : Eng.deep H (n + 2) x = some (.lst false (ms.map encClaim)) :=
  deep_racc (d := n + 1) h rfl (by omega) (fun _ => rfl) (fun k x hx => fzE_Claim n k x hx)
section
variable {code : List Int} {a : Nat} {H : Hp} {b : Nat} {q : Option (AV × Hp)}
theorem ok_8Draw : fnOk Tryz.prog cfg0 71 Tryz.f71 = true := by kernel_rfl
theorem d_8Draw (hco : CodeOk code) (hS : Src H b code a) (ha : a ≤ 800000000) (hq : call Tryz.prog cfg0 0 71 [.ptr b 0] H = q) :
    ∃ (x : AV) (H' : Hp) (ms : List ClaimM), q = some (x, H') ∧ CL H' x ms ∧ ms.length ≤ 4 ∧ (∀ c ∈ ms, COk c) ∧ (∀ p, p < H.g → Off p x) ∧ (∃ a2, a ≤ a2 ∧ a2 ≤ a + 60 ∧ Src H' b code a2) ∧ Fr b H H' := by
  subst hq
  have key : ∃ r, body Tryz.prog cfg0 71 Tryz.f71 [.ptr b 0] H = some r ∧ (∃ (ms : List ClaimM), CL r.2 r.1 ms ∧ ms.length ≤ 4 ∧ (∀ c ∈ ms, COk c) ∧ (∀ p, p < H.g → Off p r.1) ∧ (∃ a2, a ≤ a2 ∧ a2 ≤ a + 60 ∧ Src r.2 b code a2) ∧ Fr b H r.2) := by
    refine body_wp (rs := [.tmp 2]) rfl rfl (R := fun x H' => ∃ (ms : List ClaimM), CL H' x ms ∧ ms.length ≤ 4 ∧ (∀ c ∈ ms, COk c) ∧ (∀ p, p < H.g → Off p x) ∧ (∃ a2, a ≤ a2 ∧ a2 ≤ a + 60 ∧ Src H' b code a2) ∧ Fr b H H') ?_
    have hp0 : ∀ b, cfg0.pol 71 b = 0 := fun b => rfl
    (have hF := hp0; have hc := trivial; repeat' (first | refine wK ?_ | refine wX ?_ | refine rR ?_ | refine rB ?_ ?_ <;> intro ht <;> try simp only [bbs] at ht | refine rG ?_ ?_ <;> intro hc | refine rZ ?_ | refine wQ ?_))
    refine wLoop (fun k s => ∃ (j : Nat) (x : AV) (ms : List ClaimM), j + k = 4 ∧ s.1 0 = .ptr b 0 ∧ s.1 3 = x ∧ s.1 4 = .v (.int .i64 (j : Nat)) ∧ (CL s.2 x ms ∧ ms.length ≤ j) ∧ (∀ c ∈ ms, COk c) ∧ (∀ p, p < H.g → Off p x) ∧ (∃ a2, a ≤ a2 ∧ a2 ≤ a + 10 * j ∧ Src s.2 b code a2) ∧ (Fr b H s.2)) (fun k s hI => ?_) (4) _ ?_
    · obtain ⟨e, K⟩ := s
      obtain ⟨j, x, ms, hj, h0, h3, h4, hr, hok, hoff, hsrc, hfr⟩ := hI
      simp only at h0 h3 h4 hr hok hoff hsrc hfr
      obtain ⟨hr, hrl⟩ := hr
      obtain ⟨a2, a3, a4, hsrc⟩ := hsrc
      have w4 : IntKind.wrap .i64 ((j : Nat) + 1 : Int) = ((j + 1 : Nat) : Int) := wrap_succ (by omega)
      by_cases hlt : j < 4
      · have hgt : ((j : Nat) : Int) < 4 := by omega
        have hxb : Off b x := hoff b hS.2
        (have hF := an hp0 <| an h4 <| hgt; have hc := trivial; repeat' ((fail_if_success (first | refine wAt 5 ?_ | refine wAtL 5 ?_)); first | refine wK ?_ | refine wX ?_ | refine rR ?_ | refine rB ?_ ?_ <;> intro ht <;> try simp only [bbs] at ht | refine rG ?_ ?_ <;> intro hc | refine rZ ?_ | refine wQ ?_))
        all_goals try exact False.elim kk
        have hF := an hp0 <| h0; have hc := trivial; (try refine wX ?_); refine rN (fun xx hx => ?_); generalize hq : call Tryz.prog cfg0 0 _ _ _ = q at hx
        obtain ⟨v, K1, rfl, S1, F1, G1⟩ := d_Chance hco hsrc (by omega) (by omega) hq
        clear hq
        have hr1 : RAcc K1 x 4 ((ms.map encClaim).flatten) ms.length := RAcc.keep hr F1.1 fun p hp ho => F1.2 p hp (fun e => ho (e ▸ hxb))
        have hf1 := F1.1
        have hfg := hfr.1
        (subst hx; have hF := hp0; have hc := trivial; repeat' (first | refine rR ?_ | refine rG ?_ ?_ <;> intro hc | refine rZ ?_ | fail))
        cases v with
        | true =>
          (have hF := an hp0 <| an h4 <| w4; have hc := trivial; repeat' (first | refine wK ?_ | refine wX ?_ | refine rR ?_ | refine rB ?_ ?_ <;> intro ht <;> try simp only [bbs] at ht | refine rG ?_ ?_ <;> intro hc | refine rZ ?_ | refine wQ ?_))
          all_goals try exact False.elim kk
          have hS := an h0 <| an h3 <| h4; refine ⟨_, Nat.sub_lt (by omega) Nat.one_pos, j + 1, x, ms, by omega, sl, sl, sl, ?_⟩
          exact ⟨⟨hr1, by omega⟩, hok, hoff, ⟨_, by omega, by omega, S1⟩, hfr.trans F1⟩
        | false =>
          (have hF := hp0; have hc := trivial; repeat' ((fail_if_success (first | refine wAt 6 ?_ | refine wAtL 6 ?_)); first | refine wK ?_ | refine wX ?_ | refine rR ?_ | refine rB ?_ ?_ <;> intro ht <;> try simp only [bbs] at ht | refine rG ?_ ?_ <;> intro hc | refine rZ ?_ | refine wQ ?_))
          all_goals try exact False.elim kk
          have hF := an hp0 <| h0; have hc := trivial; (try refine wX ?_); refine rN (fun xx hx => ?_); generalize hq : call Tryz.prog cfg0 0 _ _ _ = q at hx
          obtain ⟨c, K2, rfl, c1, S2, F2⟩ := d_Claim hco S1 (by omega) hq
          clear hq
          have hr2 : RAcc K2 x 4 ((ms.map encClaim).flatten) ms.length := RAcc.keep hr1 F2.1 fun p hp ho => F2.2 p hp (fun e => ho (e ▸ hxb))
          have hf2 := F2.1
          have s2 := S2.2
          have hbg : b < H.g := hS.2
          (subst hx; have hF := hp0; have hc := trivial; repeat' (first | refine rR ?_ | refine rG ?_ ?_ <;> intro hc | refine rZ ?_ | fail))
          (have hF := an hp0 <| h4; have hc := trivial; repeat' ((fail_if_success (first | refine wAt 8 ?_ | refine wAtL 8 ?_)); first | refine wK ?_ | refine wX ?_ | refine rR ?_ | refine rB ?_ ?_ <;> intro ht <;> try simp only [bbs] at ht | refine rG ?_ ?_ <;> intro hc | refine rZ ?_ | refine wQ ?_))
          all_goals try exact False.elim kk
          have hF := an hp0 <| h3; have hc := trivial; (try refine wX ?_); refine rN (fun xx hx => ?_); generalize hq : aappend Tryz.prog _ _ _ _ = q at hx
          have hr3 : RAcc (((K2.new [.v (.int .i64 0), .v (.int .i64 0), .v (.int .i64 0), .v (.int .i64 0)]).set K2.g (encClaim c)).set K2.g (encClaim ⟨(j : Nat), c.Inc, c.Status, c.Meta⟩)) x 4 ((ms.map encClaim).flatten) ms.length :=
            hr2.ext ⟨by simp only [Hp.set_g, Hp.new_g]; omega, fun p hp => by rw [Hp.set_h, Hp.set_h, Hp.new_h, if_neg (by omega), if_neg (by omega), if_neg (by omega)]⟩
          obtain ⟨x', K3, rfl, hacc, hg2, hk2, ho2⟩ := app_rows hq el35 zero103 by103 int35 (sz := 4) rfl (by omega) hr3 (m := 1) rfl (afirst_one _ _ (encClaim ⟨(j : Nat), c.Inc, c.Status, c.Meta⟩)) rfl (by omega) (by omega)
          clear hq
          simp only [Hp.set_g, Hp.new_g] at hg2 hk2 ho2
          (subst hx; have hF := hp0; have hc := trivial; repeat' (first | refine rR ?_ | refine rG ?_ ?_ <;> intro hc | refine rZ ?_ | fail))
          (have hF := an hp0 <| an h4 <| w4; have hc := trivial; repeat' (first | refine wK ?_ | refine wX ?_ | refine rR ?_ | refine rB ?_ ?_ <;> intro ht <;> try simp only [bbs] at ht | refine rG ?_ ?_ <;> intro hc | refine rZ ?_ | refine wQ ?_))
          all_goals try exact False.elim kk
          have hS := an h0 <| an h3 <| h4; refine ⟨_, Nat.sub_lt (by omega) Nat.one_pos, j + 1, x', ms ++ [⟨(j : Nat), c.Inc, c.Status, c.Meta⟩], by omega, sl, sl, sl, ?_⟩
          have hk3 : ∀ p, p < K2.g → Off p x → K3.h p = K2.h p := fun p hp ho => (hk2 p (by omega) ho).trans (by rw [Hp.set_h, Hp.set_h, Hp.new_h, if_neg (by omega), if_neg (by omega), if_neg (by omega)])
          have hgb : b < K3.g := by omega
          have hF3 : Fr b H K3 := ⟨by omega, fun p h1 h2 => (hk3 p (by omega) (hoff p h1)).trans ((F2.2 p (by omega) h2).trans ((F1.2 p (by omega) h2).trans (hfr.2 p h1 h2)))⟩
          refine ⟨⟨?_, by simp; omega⟩, fun d hd => ?_, fun p hp => ho2 p (by omega) (hoff p hp), ⟨_, by omega, by omega, (hk3 b s2 hxb).trans S2.1, hgb⟩, hF3⟩
          · unfold CL
            rw [List.map_append, List.flatten_append, List.length_append]
            simpa using hacc
          · rcases List.mem_append.1 hd with hd | hd
            · exact hok d hd
            · simp only [List.mem_singleton] at hd; subst hd
              exact ⟨by show (0 : Int) ≤ (j : Nat); omega, by show ((j : Nat) : Int) ≤ 3; omega, c1.2.2⟩
      · have hgt : ¬ ((j : Nat) : Int) < 4 := by omega
        (have hF := an hp0 <| an h3 <| an h4 <| hgt; have hc := trivial; repeat' (first | refine wK ?_ | refine wX ?_ | refine rR ?_ | refine rB ?_ ?_ <;> intro ht <;> try simp only [bbs] at ht | refine rG ?_ ?_ <;> intro hc | refine rZ ?_ | refine wQ ?_))
        all_goals try exact False.elim kk
        exact ⟨ms, hr, by omega, hok, hoff, ⟨a2, a3, by omega, hsrc⟩, hfr⟩
    · exact ⟨0, .lst true [], [], by omega, rfl, rfl, rfl, ⟨RAcc.lst, Nat.le_refl _⟩, fun c hc => by simp at hc, fun p _ => off_lst, ⟨a, by omega, by omega, hS⟩, Fr.refl _ _⟩
  obtain ⟨⟨x, H'⟩, h1, ms, h2, h3, h4, h5, h6, h7⟩ := key
  exact ⟨x, H', ms, by rw [call_raw Tryz.prog cfg0 Tryz.func71 rfl ok_8Draw rfl rfl, h1], h2, h3, h4, h5, h6, h7⟩
theorem CL.keep {H K : Hp} {x : AV} {ms : List ClaimM} {b : Nat} (h : CL H x ms) (F : Fr b H K) (hxb : Off b x) : CL K x ms := RAcc.keep h F.1 fun p hp ho => F.2 p hp (fun e => ho (e ▸ hxb))
theorem CL.add {H : Hp} {x : AV} {ms : List ClaimM} {c : ClaimM} (h : RAcc H x 4 ((ms.map encClaim).flatten ++ encClaim c) (ms.length + 1)) : CL H x (ms ++ [c]) := by
  unfold CL
  rw [List.map_append, List.flatten_append, List.length_append]
  simpa using h
theorem ok_8Bent : fnOk Tryz.prog cfg0 39 Tryz.f39 = true := by kernel_rfl
theorem d_8Bent (hco : CodeOk code) (hS : Src H b code a) (ha : a ≤ 700000000) (hq : call Tryz.prog cfg0 0 39 [.ptr b 0] H = q) :
    ∃ (x : AV) (H' : Hp) (ms : List ClaimM), q = some (x, H') ∧ CL H' x ms ∧ ms.length ≤ 8 ∧ (∀ p, p < H.g → Off p x) ∧ (∃ a2, a ≤ a2 ∧ a2 ≤ a + 80 ∧ Src H' b code a2) ∧ Fr b H H' := by
  subst hq
  have key : ∃ r, body Tryz.prog cfg0 39 Tryz.f39 [.ptr b 0] H = some r ∧ (∃ (ms : List ClaimM), CL r.2 r.1 ms ∧ ms.length ≤ 8 ∧ (∀ p, p < H.g → Off p r.1) ∧ (∃ a2, a ≤ a2 ∧ a2 ≤ a + 80 ∧ Src r.2 b code a2) ∧ Fr b H r.2) := by
    refine body_wp (rs := [.tmp 2]) rfl rfl (R := fun x H' => ∃ (ms : List ClaimM), CL H' x ms ∧ ms.length ≤ 8 ∧ (∀ p, p < H.g → Off p x) ∧ (∃ a2, a ≤ a2 ∧ a2 ≤ a + 80 ∧ Src H' b code a2) ∧ Fr b H H') ?_
    have hp0 : ∀ b, cfg0.pol 39 b = 0 := fun b => rfl
    have hbg : b < H.g := hS.2
    (have hF := hp0; have hc := trivial; repeat' ((fail_if_success (first | refine wAt 1 ?_ | refine wAtL 1 ?_)); first | refine wK ?_ | refine wX ?_ | refine rR ?_ | refine rB ?_ ?_ <;> intro ht <;> try simp only [bbs] at ht | refine rG ?_ ?_ <;> intro hc | refine rZ ?_ | refine wQ ?_))
    have hF := hp0; have hc := trivial; (try refine wX ?_); refine rN (fun xx hx => ?_); generalize hq : call Tryz.prog cfg0 0 _ _ _ = q at hx
    obtain ⟨x, H1, ms, rfl, hr, hlen, hok, hoff, ⟨a1, ha1, ha2, S1⟩, F1⟩ := d_8Draw hco hS (by omega) hq
    clear hq
    have hxb : Off b x := hoff b hbg
    have f1 := F1.1
    (subst hx; have hF := hp0; have hc := trivial; repeat' (first | refine rR ?_ | refine rG ?_ ?_ <;> intro hc | refine rZ ?_ | fail))
    (have hF := hp0; have hc := trivial; repeat' ((fail_if_success (first | refine wAt 2 ?_ | refine wAtL 2 ?_)); first | refine wK ?_ | refine wX ?_ | refine rR ?_ | refine rB ?_ ?_ <;> intro ht <;> try simp only [bbs] at ht | refine rG ?_ ?_ <;> intro hc | refine rZ ?_ | refine wQ ?_))
    have hF := hp0; have hc := trivial; (try refine wX ?_); refine rN (fun xx hx => ?_); generalize hq : call Tryz.prog cfg0 0 _ _ _ = q at hx
    obtain ⟨v, H2, rfl, v1, S2, F2, G2⟩ := d_Next hco S1 (by omega) (by omega) hq
    clear hq
    have hr2 := hr.keep F2 hxb
    have f2 := F2.1
    have s2 := S2.2
    (subst hx; have hF := hp0; have hc := trivial; repeat' (first | refine rR ?_ | refine rG ?_ ?_ <;> intro hc | refine rZ ?_ | fail))
    by_cases w0 : v = 0
    · subst w0
      (have hF := hp0; have hc := trivial; repeat' ((fail_if_success (first | refine wAt 4 ?_ | refine wAtL 4 ?_)); first | refine wK ?_ | refine wX ?_ | refine rR ?_ | refine rB ?_ ?_ <;> intro ht <;> try simp only [bbs] at ht | refine rG ?_ ?_ <;> intro hc | refine rZ ?_ | refine wQ ?_))
      all_goals try exact False.elim kk
      have hF := hp0; have hc := trivial; (try refine wX ?_); refine rN (fun xx hx => ?_); generalize hq : call Tryz.prog cfg0 0 _ _ _ = q at hx
      obtain ⟨c, H3, rfl, c1, S3, F3⟩ := d_Claim hco S2 (by omega) hq
      clear hq
      have hr3 := hr2.keep F3 hxb
      have f3 := F3.1
      have s3 := S3.2
      subst hx; have hF := hp0; have hc := trivial; refine rN (fun xx hx => ?_); generalize hq : aappend Tryz.prog _ _ _ _ = q at hx
      obtain ⟨x', K, rfl, hacc, hg2, hk2, ho2⟩ := app_rows hq el35 zero103 by103 int35 (sz := 4) rfl (by omega) hr3 (m := 1) rfl (afirst_one _ _ (encClaim c)) rfl (by omega) (by omega)
      clear hq
      (subst hx; have hF := hp0; have hc := trivial; repeat' (first | refine rR ?_ | refine rG ?_ ?_ <;> intro hc | refine rZ ?_ | fail))
      (have hF := hp0; have hc := trivial; repeat' (first | refine wK ?_ | refine wX ?_ | refine rR ?_ | refine rB ?_ ?_ <;> intro ht <;> try simp only [bbs] at ht | refine rG ?_ ?_ <;> intro hc | refine rZ ?_ | refine wQ ?_))
      all_goals try exact False.elim kk
      exact ⟨ms ++ [c], CL.add hacc, by simp; omega, fun p hp => ho2 p (by omega) (hoff p hp), ⟨_, by omega, by omega, (hk2 b s3 hxb).trans S3.1, by omega⟩, ⟨by omega, fun p h1 h2 => (hk2 p (by omega) (hoff p h1)).trans ((F3.2 p (by omega) h2).trans ((F2.2 p (by omega) h2).trans (F1.2 p h1 h2)))⟩⟩
    by_cases w1 : v = 1
    · subst w1
      (have hF := hp0; have hc := trivial; repeat' ((fail_if_success (first | refine wAt 6 ?_ | refine wAtL 6 ?_)); first | refine wK ?_ | refine wX ?_ | refine rR ?_ | refine rB ?_ ?_ <;> intro ht <;> try simp only [bbs] at ht | refine rG ?_ ?_ <;> intro hc | refine rZ ?_ | refine wQ ?_))
      all_goals try exact False.elim kk
      have hF := hp0; have hc := trivial; (try refine wX ?_); refine rN (fun xx hx => ?_); generalize hq : call Tryz.prog cfg0 0 _ _ _ = q at hx
      obtain ⟨z, H3, rfl, b3, S3, F3, G3⟩ := d_Pick [3, 4] (by simp) hco S2 (by omega) hq
      clear hq
      have hr3 := hr2.keep F3 hxb
      have f3 := F3.1
      have s3 := S3.2
      subst hx; have hF := hp0; have hc := trivial; refine rN (fun xx hx => ?_); generalize hq : aappend Tryz.prog _ _ _ _ = q at hx
      obtain ⟨x', K, rfl, hacc, hg2, hk2, ho2⟩ := app_rows hq el35 zero103 by103 int35 (sz := 4) rfl (by omega) hr3 (m := 1) rfl (afirst_one _ _ (encClaim ⟨z, 0, 0, 0⟩)) rfl (by omega) (by omega)
      clear hq
      (subst hx; have hF := hp0; have hc := trivial; repeat' (first | refine rR ?_ | refine rG ?_ ?_ <;> intro hc | refine rZ ?_ | fail))
      (have hF := hp0; have hc := trivial; repeat' (first | refine wK ?_ | refine wX ?_ | refine rR ?_ | refine rB ?_ ?_ <;> intro ht <;> try simp only [bbs] at ht | refine rG ?_ ?_ <;> intro hc | refine rZ ?_ | refine wQ ?_))
      all_goals try exact False.elim kk
      exact ⟨ms ++ [⟨z, 0, 0, 0⟩], CL.add hacc, by simp; omega, fun p hp => ho2 p (by omega) (hoff p hp), ⟨_, by omega, by omega, (hk2 b s3 hxb).trans S3.1, by omega⟩, ⟨by omega, fun p h1 h2 => (hk2 p (by omega) (hoff p h1)).trans ((F3.2 p (by omega) h2).trans ((F2.2 p (by omega) h2).trans (F1.2 p h1 h2)))⟩⟩
    by_cases w2 : v = 2
    · subst w2
      (have hF := hp0; have hc := trivial; repeat' ((fail_if_success (first | refine wAt 8 ?_ | refine wAtL 8 ?_)); first | refine wK ?_ | refine wX ?_ | refine rR ?_ | refine rB ?_ ?_ <;> intro ht <;> try simp only [bbs] at ht | refine rG ?_ ?_ <;> intro hc | refine rZ ?_ | refine wQ ?_))
      all_goals try exact False.elim kk
      have hF := hp0; have hc := trivial; (try refine wX ?_); refine rN (fun xx hx => ?_); generalize hq : aappend Tryz.prog _ _ _ _ = q at hx
      have hmm : alen x = some ms.length ∧ afirst H2 4 ms.length x = some ((ms.map encClaim).flatten) := by
        rcases hr2.2 with ⟨h0, e⟩ | ⟨p, hp, rfl, hh⟩
        · have e0 : ms = [] := List.length_eq_zero_iff.1 h0
          subst e0
          rcases e with rfl | rfl <;> exact ⟨rfl, rfl⟩
        · refine ⟨rfl, ?_⟩
          have hfl := flat_len ms
          simp only [afirst, hh, Option.bind_some]
          simp only [Nat.zero_add, hfl, Nat.le_refl, and_self, if_true, List.drop_zero]
          rw [List.take_of_length_le (by omega)]
      obtain ⟨x', K, rfl, hacc, hg2, hk2, ho2⟩ := app_rows hq el35 zero103 by103 int35 (sz := 4) rfl (by omega) hr2 (m := ms.length) hmm.1 hmm.2 (flat_len ms) (by omega) (by omega)
      clear hq
      (subst hx; have hF := hp0; have hc := trivial; repeat' (first | refine rR ?_ | refine rG ?_ ?_ <;> intro hc | refine rZ ?_ | fail))
      (have hF := hp0; have hc := trivial; repeat' (first | refine wK ?_ | refine wX ?_ | refine rR ?_ | refine rB ?_ ?_ <;> intro ht <;> try simp only [bbs] at ht | refine rG ?_ ?_ <;> intro hc | refine rZ ?_ | refine wQ ?_))
      all_goals try exact False.elim kk
      refine ⟨ms ++ ms, ?_, by simp; omega, fun p hp => ho2 p (by omega) (hoff p hp), ⟨_, by omega, by omega, (hk2 b s2 hxb).trans S2.1, by omega⟩, ⟨by omega, fun p h1 h2 => (hk2 p (by omega) (hoff p h1)).trans ((F2.2 p (by omega) h2).trans (F1.2 p h1 h2))⟩⟩
      unfold CL
      rw [List.map_append, List.flatten_append, List.length_append]
      exact hacc
    by_cases w3 : v = 3
    · subst w3
      have hll := hr2.len
      by_cases hm0 : ms.length = 0
      · have hn0 : ¬ 0 < ((ms.length : Nat) : Int) := by omega
        (have hF := an hp0 <| an hll <| hn0; have hc := trivial; repeat' (first | refine wK ?_ | refine wX ?_ | refine rR ?_ | refine rB ?_ ?_ <;> intro ht <;> try simp only [bbs] at ht | refine rG ?_ ?_ <;> intro hc | refine rZ ?_ | refine wQ ?_))
        all_goals try exact False.elim kk
        exact ⟨ms, hr2, by omega, hoff, ⟨_, by omega, by omega, S2⟩, F1.trans F2⟩
      · have hn0 : 0 < ((ms.length : Nat) : Int) := by omega
        rcases hr2.2 with ⟨h0, e⟩ | ⟨p, hp, rfl, hh⟩
        · omega
        have hpb : p ≠ b := fun e => hxb 4 0 ms.length (by rw [e])
        (have hF := an hp0 <| an hll <| hn0; have hc := trivial; repeat' ((fail_if_success (first | refine wAt 11 ?_ | refine wAtL 11 ?_)); first | refine wK ?_ | refine wX ?_ | refine rR ?_ | refine rB ?_ ?_ <;> intro ht <;> try simp only [bbs] at ht | refine rG ?_ ?_ <;> intro hc | refine rZ ?_ | refine wQ ?_))
        all_goals try exact False.elim kk
        have hF := hp0; have hc := trivial; (try refine wX ?_); refine rN (fun xx hx => ?_); generalize hq : call Tryz.prog cfg0 0 _ _ _ = q at hx
        obtain ⟨z, H3, rfl, b3, S3, F3, G3⟩ := d_Pick [3, -1, 2] (by simp) hco S2 (by omega) hq
        clear hq
        have hh3 := (F3.2 p hp hpb).trans hh
        have hm1 : 0 < ms.length := by omega
        obtain ⟨c, hg, -, -⟩ := at_drop hm1
        have hset := claims_set (d := ⟨c.Node, c.Inc, z, c.Meta⟩) (j := 2) (v := .v (.int .i64 z)) hg (by omega) rfl
        have hl2 : 0 + 2 + 1 ≤ ((ms.map encClaim).flatten).length := by rw [flat_len]; omega
        have hcl : CL (H3.set p ((((ms.set 0 ⟨c.Node, c.Inc, z, c.Meta⟩).map encClaim).flatten))) (.sl p 4 0 ms.length) (ms.set 0 ⟨c.Node, c.Inc, z, c.Meta⟩) := by
          refine ⟨flat_len _, Or.inr ⟨p, by simpa only [Hp.set_g] using Nat.lt_of_lt_of_le hp F3.1, by rw [List.length_set], by rw [Hp.set_h, if_pos rfl]⟩⟩
        (subst hx; have hF := an hp0 <| an hh3 <| an @Option.isSome_some.{0} <| an hm1 <| an hset <| hl2; have hc := trivial; repeat' (first | refine rR ?_ | refine rG ?_ ?_ <;> intro hc | refine rZ ?_ | fail))
        (have hF := hp0; have hc := trivial; repeat' (first | refine wK ?_ | refine wX ?_ | refine rR ?_ | refine rB ?_ ?_ <;> intro ht <;> try simp only [bbs] at ht | refine rG ?_ ?_ <;> intro hc | refine rZ ?_ | refine wQ ?_))
        all_goals try exact False.elim kk
        refine ⟨_, hcl, by rw [List.length_set]; omega, hoff, ⟨a1 + 1 + 1, by omega, by omega, ?_, ?_⟩, ?_, ?_⟩
        · rw [Hp.set_h, if_neg (by omega)]; exact S3.1
        · rw [Hp.set_g]; exact S3.2
        · rw [Hp.set_g]; omega
        · intro q h1 h2
          rw [Hp.set_h, if_neg (fun e => hoff q h1 4 0 ms.length (by rw [e]))]
          exact (F3.2 q (by omega) h2).trans ((F2.2 q (by omega) h2).trans (F1.2 q h1 h2))
    · (have hF := an hp0 <| an w0 <| an w1 <| an w2 <| w3; have hc := trivial; repeat' (first | refine wK ?_ | refine wX ?_ | refine rR ?_ | refine rB ?_ ?_ <;> intro ht <;> try simp only [bbs] at ht | refine rG ?_ ?_ <;> intro hc | refine rZ ?_ | refine wQ ?_))
      all_goals try exact False.elim kk
      exact ⟨ms, hr2, by omega, hoff, ⟨_, by omega, by omega, S2⟩, F1.trans F2⟩
  obtain ⟨⟨x, H'⟩, h1, ms, h2, h3, h4, h5, h6⟩ := key
  exact ⟨x, H', ms, by rw [call_raw Tryz.prog cfg0 Tryz.func39 rfl ok_8Bent rfl rfl, h1], h2, h3, h4, h5, h6⟩
end
end
end Go.Proofs.YtnejoidfbgklbaaGreatDoor
namespace Go.Proofs.YtnejoidfbgklbaaGreatDoor
open Go Go.RowKit Go.Proofs.YtnejoidfbgklbaaGreatDoor.Eng
set_option linter.unusedSimpArgs false
set_option linter.unusedVariables false
set_option maxRecDepth 100000
set_option maxHeartbeats 2000000
noncomputable section
theorem CL.put {H : Hp} {p n i : Nat} {ns : List ClaimM} {d : ClaimM} (h : CL H (.sl p 4 0 n) ns) (hp : p < H.g) : CL (H.set p (((ns.set i d).map encClaim).flatten)) (.sl p 4 0 n) (ns.set i d) := by
  have hn : n = ns.length := by
    rcases h.2 with ⟨-, e⟩ | ⟨q, -, e, -⟩
    · rcases e with e | e <;> cases e
    · cases e; rfl
  refine ⟨flat_len _, Or.inr ⟨p, by simpa only [Hp.set_g] using hp, by rw [List.length_set, hn], by rw [Hp.set_h, if_pos rfl]⟩⟩
def VM (c : ClaimM) : Prop := 0 ≤ c.Meta ∧ c.Meta ≤ 9999999
section
variable {code : List Int} {a : Nat} {H : Hp} {b : Nat} {q : Option (AV × Hp)}
theorem ok_View : fnOk Tryz.prog cfg0 37 Tryz.f37 = true := by kernel_rfl
theorem d_View (hco : CodeOk code) (hS : Src H b code a) (ha : a ≤ 700000000) (hq : call Tryz.prog cfg0 0 37 [.ptr b 0] H = q) :
    ∃ (x : AV) (H' : Hp) (ms : List ClaimM), q = some (x, H') ∧ CL H' x ms ∧ ms.length ≤ 8 ∧ (∀ c ∈ ms, VM c) ∧ (∀ p, p < H.g → Off p x) ∧ (∃ a2, a ≤ a2 ∧ a2 ≤ a + 100 ∧ Src H' b code a2) ∧ Fr b H H' := by
  subst hq
  have key : ∃ r, body Tryz.prog cfg0 37 Tryz.f37 [.ptr b 0] H = some r ∧ (∃ (ms : List ClaimM), CL r.2 r.1 ms ∧ ms.length ≤ 8 ∧ (∀ c ∈ ms, VM c) ∧ (∀ p, p < H.g → Off p r.1) ∧ (∃ a2, a ≤ a2 ∧ a2 ≤ a + 100 ∧ Src r.2 b code a2) ∧ Fr b H r.2) := by
    refine body_wp (rs := [.tmp 2]) rfl rfl (R := fun x H' => ∃ (ms : List ClaimM), CL H' x ms ∧ ms.length ≤ 8 ∧ (∀ c ∈ ms, VM c) ∧ (∀ p, p < H.g → Off p x) ∧ (∃ a2, a ≤ a2 ∧ a2 ≤ a + 100 ∧ Src H' b code a2) ∧ Fr b H H') ?_
    have hp0 : ∀ b, cfg0.pol 37 b = 0 := fun b => rfl
    have hbg : b < H.g := hS.2
    (have hF := hp0; have hc := trivial; repeat' ((fail_if_success (first | refine wAt 1 ?_ | refine wAtL 1 ?_)); first | refine wK ?_ | refine wX ?_ | refine rR ?_ | refine rB ?_ ?_ <;> intro ht <;> try simp only [bbs] at ht | refine rG ?_ ?_ <;> intro hc | refine rZ ?_ | refine wQ ?_))
    have hF := hp0; have hc := trivial; (try refine wX ?_); refine rN (fun xx hx => ?_); generalize hq : call Tryz.prog cfg0 0 _ _ _ = q at hx
    obtain ⟨x, H1, ms, rfl, hr, hlen, hok, hoff, ⟨a1, ha1, ha2, S1⟩, F1⟩ := d_8Draw hco hS (by omega) hq
    clear hq
    have hxb : Off b x := hoff b hbg
    have hll := hr.len
    have vm : ∀ c ∈ ms, VM c := fun c hc => ⟨(hok c hc).2.2.2.2.2.2.1, (hok c hc).2.2.2.2.2.2.2⟩
    (subst hx; have hF := hp0; have hc := trivial; repeat' (first | refine rR ?_ | refine rG ?_ ?_ <;> intro hc | refine rZ ?_ | fail))
    (have hF := an hp0 <| hll; have hc := trivial; repeat' (first | refine wK ?_ | refine wX ?_ | refine rR ?_ | refine rB ?_ ?_ <;> intro ht <;> try simp only [bbs] at ht | refine rG ?_ ?_ <;> intro hc | refine rZ ?_ | refine wQ ?_))
    refine wLoop (fun k s => ∃ (j : Nat) (ns : List ClaimM), j + k = ms.length ∧ s.1 0 = .ptr b 0 ∧ s.1 3 = x ∧ s.1 8 = .v (.int .i64 (ms.length : Nat)) ∧ s.1 9 = .v (.int .i64 (j : Nat)) ∧ (CL s.2 x ns ∧ ns.length = ms.length) ∧ (∀ c ∈ ns, VM c) ∧ (∃ a2, a1 ≤ a2 ∧ a2 ≤ a1 + 3 * j ∧ Src s.2 b code a2) ∧ (Fr b H s.2)) (fun k s hI => ?_) (ms.length) _ ?_
    · clear hr hok
      obtain ⟨e, K⟩ := s
      obtain ⟨j, ns, hj, h0, h3, h8, h9, hr, hok, hsrc, hfr⟩ := hI
      simp only at h0 h3 h8 h9 hr hok hsrc hfr
      obtain ⟨hr, hrl⟩ := hr
      obtain ⟨a2, a3, a4, S2⟩ := hsrc
      have w9 : IntKind.wrap .i64 ((j : Nat) + 1 : Int) = ((j + 1 : Nat) : Int) := wrap_succ (by omega)
      by_cases hlt : j < ms.length
      · have hgt : ((j : Nat) : Int) < (ms.length : Int) := by omega
        rcases hr.2 with ⟨hz, -⟩ | ⟨p, hp, ex, hh⟩
        · omega
        have hpb : p ≠ b := fun e => hxb 4 0 ns.length (by rw [ex, e])
        have hfg := hfr.1
        (have hF := an hp0 <| an h8 <| an h9 <| hgt; have hc := trivial; repeat' ((fail_if_success (first | refine wAt 5 ?_ | refine wAtL 5 ?_)); first | refine wK ?_ | refine wX ?_ | refine rR ?_ | refine rB ?_ ?_ <;> intro ht <;> try simp only [bbs] at ht | refine rG ?_ ?_ <;> intro hc | refine rZ ?_ | refine wQ ?_))
        all_goals try exact False.elim kk
        have hF := an hp0 <| h0; have hc := trivial; (try refine wX ?_); refine rN (fun xx hx => ?_); generalize hq : call Tryz.prog cfg0 0 _ _ _ = q at hx
        obtain ⟨v, K1, rfl, S3, F3, G3⟩ := d_Chance hco S2 (by omega) (by omega) hq
        clear hq
        have hr1 := hr.keep F3 hxb
        have f3 := F3.1
        (subst hx; have hF := hp0; have hc := trivial; repeat' (first | refine rR ?_ | refine rG ?_ ?_ <;> intro hc | refine rZ ?_ | fail))
        cases v with
        | true =>
          (have hF := an hp0 <| an h9 <| w9; have hc := trivial; repeat' (first | refine wK ?_ | refine wX ?_ | refine rR ?_ | refine rB ?_ ?_ <;> intro ht <;> try simp only [bbs] at ht | refine rG ?_ ?_ <;> intro hc | refine rZ ?_ | refine wQ ?_))
          all_goals try exact False.elim kk
          have hS := an h0 <| an h3 <| an h8 <| h9; refine ⟨_, Nat.sub_lt (by omega) Nat.one_pos, j + 1, ns, by omega, sl, sl, sl, sl, ?_⟩
          exact ⟨⟨hr1, hrl⟩, hok, ⟨_, by omega, by omega, S3⟩, hfr.trans F3⟩
        | false =>
          have hh3 := (F3.2 p hp hpb).trans hh
          obtain ⟨c, hg, -, hcm⟩ := at_drop (show j < ns.length by omega)
          have hset := claims_set (d := ⟨c.Node, c.Inc, 0, c.Meta⟩) (j := 2) (v := .v (.int .i64 0)) hg (by omega) rfl
          have hl2 : j * 4 + 2 + 1 ≤ ((ns.map encClaim).flatten).length := by rw [flat_len]; omega
          have hjn : j < ns.length := by omega
          (have hF := hp0; have hc := trivial; repeat' ((fail_if_success (first | refine wAt 6 ?_ | refine wAtL 6 ?_)); first | refine wK ?_ | refine wX ?_ | refine rR ?_ | refine rB ?_ ?_ <;> intro ht <;> try simp only [bbs] at ht | refine rG ?_ ?_ <;> intro hc | refine rZ ?_ | refine wQ ?_))
          all_goals try exact False.elim kk
          (have hF := an hp0 <| an h3 <| an ex <| an h9 <| an hh3 <| an @Option.isSome_some.{0} <| an hjn <| an hset <| hl2; have hc := trivial; repeat' ((fail_if_success (first | refine wAt 7 ?_ | refine wAtL 7 ?_)); first | refine wK ?_ | refine wX ?_ | refine rR ?_ | refine rB ?_ ?_ <;> intro ht <;> try simp only [bbs] at ht | refine rG ?_ ?_ <;> intro hc | refine rZ ?_ | refine wQ ?_))
          all_goals try exact False.elim kk
          rw [ex] at hr1
          have hr4 := hr1.put (i := j) (d := ⟨c.Node, c.Inc, 0, c.Meta⟩) (Nat.lt_of_lt_of_le hp f3)
          have S4 : Src (K1.set p (((ns.set j ⟨c.Node, c.Inc, 0, c.Meta⟩).map encClaim).flatten)) b code (a2 + 1) := ⟨by rw [Hp.set_h, if_neg (fun e => hpb e.symm)]; exact S3.1, by rw [Hp.set_g]; exact S3.2⟩
          have hh4 : (K1.set p (((ns.set j ⟨c.Node, c.Inc, 0, c.Meta⟩).map encClaim).flatten)).h p = some (((ns.set j ⟨c.Node, c.Inc, 0, c.Meta⟩).map encClaim).flatten) := by rw [Hp.set_h, if_pos rfl]
          have hg4 : (K1.set p (((ns.set j ⟨c.Node, c.Inc, 0, c.Meta⟩).map encClaim).flatten)).g = K1.g := Hp.set_g ..
          have F4 : ∀ q, q < H.g → q ≠ b → (K1.set p (((ns.set j ⟨c.Node, c.Inc, 0, c.Meta⟩).map encClaim).flatten)).h q = K1.h q := fun q h1 h2 => by
            rw [Hp.set_h, if_neg (fun e => hoff q h1 4 0 ns.length (by rw [ex, e]))]
          have hns : (ns.set j ⟨c.Node, c.Inc, 0, c.Meta⟩).length = ns.length := List.length_set ..
          have hg4' : (ns.set j ⟨c.Node, c.Inc, 0, c.Meta⟩)[j]? = some ⟨c.Node, c.Inc, 0, c.Meta⟩ := by rw [List.getElem?_set_self (by omega)]
          have hok4 : ∀ d ∈ ns.set j ⟨c.Node, c.Inc, 0, c.Meta⟩, VM d := fun d hd => by
            rcases List.mem_or_eq_of_mem_set hd with hd | rfl
            · exact hok d hd
            · exact hok c hcm
          generalize K1.set p (((ns.set j ⟨c.Node, c.Inc, 0, c.Meta⟩).map encClaim).flatten) = K4 at *
          generalize ns.set j ⟨c.Node, c.Inc, 0, c.Meta⟩ = n4 at *
          have hF := an hp0 <| an h0 <| an h3 <| h9; have hc := trivial; (try refine wX ?_); refine rN (fun xx hx => ?_); generalize hq : call Tryz.prog cfg0 0 _ _ _ = q at hx
          obtain ⟨z1, K5, rfl, b5, S5, F5, G5⟩ := d_Pick [65536, 65536, 0, 786432] (by simp) hco S4 (by omega) hq
          clear hq
          have hr5 := hr4.keep F5 (by rw [ex] at hxb; exact hxb)
          have hh5 := (F5.2 p (by omega) hpb).trans hh4
          have f5 := F5.1
          have g4 : H.g ≤ K4.g := by omega
          subst hx; have hF := an hp0 <| an h0 <| an h3 <| h9; have hc := trivial; refine rN (fun xx hx => ?_); generalize hq : call Tryz.prog cfg0 0 _ _ _ = q at hx
          obtain ⟨z2, K6, rfl, b6, S6, F6, G6⟩ := d_Pick [80, 443, 65535] (by simp) hco S5 (by omega) hq
          clear hq
          have hr6 := hr5.keep F6 (by rw [ex] at hxb; exact hxb)
          have hh6 := (F6.2 p (by omega) hpb).trans hh5
          have f6 := F6.1
          have hz1 : 0 ≤ z1 ∧ z1 ≤ 786432 := by simp only [List.mem_cons, List.not_mem_nil, or_false] at b5; omega
          have hz2 : 0 ≤ z2 ∧ z2 ≤ 65535 := by simp only [List.mem_cons, List.not_mem_nil, or_false] at b6; omega
          have hw : IntKind.wrap .i64 (z1 + z2) = z1 + z2 := wrap_i64 (by omega) (by omega)
          have hset6 := claims_set (d := ⟨c.Node, c.Inc, 0, z1 + z2⟩) (j := 3) (v := .v (.int .i64 (z1 + z2))) hg4' (by omega) rfl
          have hl6 : j * 4 + 3 + 1 ≤ ((n4.map encClaim).flatten).length := by rw [flat_len]; omega
          have hjn6 : j < n4.length := by omega
          (subst hx; have hF := an hp0 <| an h3 <| an ex <| an h9 <| an hh6 <| an @Option.isSome_some.{0} <| an hjn <| an hset6 <| an hl6 <| hw; have hc := trivial; repeat' (first | refine rR ?_ | refine rG ?_ ?_ <;> intro hc | refine rZ ?_ | fail))
          have hr7 := hr6.put (i := j) (d := ⟨c.Node, c.Inc, 0, z1 + z2⟩) (by omega)
          (have hF := an hp0 <| an h9 <| w9; have hc := trivial; repeat' (first | refine wK ?_ | refine wX ?_ | refine rR ?_ | refine rB ?_ ?_ <;> intro ht <;> try simp only [bbs] at ht | refine rG ?_ ?_ <;> intro hc | refine rZ ?_ | refine wQ ?_))
          all_goals try exact False.elim kk
          have hS := an h0 <| an h3 <| an h8 <| h9; refine ⟨_, Nat.sub_lt (by omega) Nat.one_pos, j + 1, n4.set j ⟨c.Node, c.Inc, 0, z1 + z2⟩, by omega, sl, sl, sl, sl, ?_⟩
          refine ⟨⟨by rw [ex]; exact hr7, by rw [List.length_set]; omega⟩, fun d hd => ?_, ⟨a2 + 1 + 1 + 1, by omega, by omega, ?_, ?_⟩, ?_, ?_⟩
          · rcases List.mem_or_eq_of_mem_set hd with hd | rfl
            · exact hok4 d hd
            · exact ⟨by show 0 ≤ z1 + z2; omega, by show z1 + z2 ≤ 9999999; omega⟩
          · rw [Hp.set_h, if_neg (fun e => hpb e.symm)]; exact S6.1
          · rw [Hp.set_g]; exact S6.2
          · rw [Hp.set_g]; omega
          · intro q h1 h2
            rw [Hp.set_h, if_neg (fun e => hoff q h1 4 0 ns.length (by rw [ex, e]))]
            exact (F6.2 q (by omega) h2).trans ((F5.2 q (by omega) h2).trans ((F4 q h1 h2).trans ((F3.2 q (by omega) h2).trans (hfr.2 q h1 h2))))
      · have hgt : ¬ ((j : Nat) : Int) < (ms.length : Int) := by omega
        (have hF := an hp0 <| an h3 <| an h8 <| an h9 <| hgt; have hc := trivial; repeat' (first | refine wK ?_ | refine wX ?_ | refine rR ?_ | refine rB ?_ ?_ <;> intro ht <;> try simp only [bbs] at ht | refine rG ?_ ?_ <;> intro hc | refine rZ ?_ | refine wQ ?_))
        all_goals try exact False.elim kk
        exact ⟨ns, hr, by omega, hok, hoff, ⟨a2, by omega, by omega, S2⟩, hfr⟩
    · exact ⟨0, ms, by omega, rfl, rfl, rfl, rfl, ⟨hr, rfl⟩, vm, ⟨a1, by omega, by omega, S1⟩, F1⟩
  obtain ⟨⟨x, H'⟩, h1, ms, h2, h3, h4, h5, h6, h7⟩ := key
  exact ⟨x, H', ms, by rw [call_raw Tryz.prog cfg0 Tryz.func37 rfl ok_View rfl rfl, h1], h2, h3, h4, h5, h6, h7⟩
end
end
end Go.Proofs.YtnejoidfbgklbaaGreatDoor
