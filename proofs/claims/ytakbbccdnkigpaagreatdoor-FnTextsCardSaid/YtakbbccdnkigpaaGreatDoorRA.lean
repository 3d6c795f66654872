/- Contracts: draws of numbers. Contracts: draws out of lists, of bytes, of keys. Contracts: draws of claims and messages. -/
import Derived.Test.YtakbbccdnkigpaaGreatDoorTQ
namespace Go.Proofs.YtakbbccdnkigpaaGreatDoor
open Go Go.RowKit Go.Proofs.YtakbbccdnkigpaaGreatDoor.Eng
set_option linter.unusedSimpArgs false
set_option linter.unusedVariables false
set_option maxRecDepth 100000
set_option maxHeartbeats 4000000
noncomputable section
/-- The next number below n, at place a of a code. -/
def nextV (code : List Int) (a : Nat) (n : Int) : Int :=
  if n < 1 then 0 else if code.length = 0 then ((a : Int) * 7) % n else
    let v0 := code.getD (a % code.length) 0 + ((a / code.length : Nat) : Int) * 37
    let v1 := if 200 < n then v0 * 251 + code.getD ((a + 1) % code.length) 0 * 13 + a else v0
    let v2 := if 60000 < n then v1 * 257 + code.getD ((a + 2) % code.length) 0 else v1
    v2 % n
theorem nextV_b (code : List Int) (a : Nat) {n : Int} (hn : 1 ≤ n) : 0 ≤ nextV code a n ∧ nextV code a n < n := by
  unfold nextV
  rw [if_neg (by omega)]
  split
  · exact ⟨Int.emod_nonneg _ (by omega), Int.emod_lt_of_pos _ (by omega)⟩
  · exact ⟨Int.emod_nonneg _ (by omega), Int.emod_lt_of_pos _ (by omega)⟩
theorem nextV_0 (code : List Int) (a : Nat) {n : Int} (hn : n < 1) : nextV code a n = 0 := by unfold nextV; rw [if_pos hn]
theorem getD_of {l : List Int} {i : Nat} {z : Int} (h : l[i]? = some z) : l.getD i 0 = z := by simp [List.getD, h]
theorem ok_Next : fnOk Tryz.prog cfg0 40 Tryz.f40 = true := by kernel_rfl
theorem nextE {code : List Int} (hb : Eng.Bytes code) (hl : code.length ≤ 1048576) {a : Nat} (ha : a ≤ 1000000000) (n : Int) (hn : n ≤ 1000000) {H : Hp} {b : Nat} (hS : H.h b = some [bytesL code, .v (.int .i64 (a : Nat))]) :
    call Tryz.prog cfg0 0 40 [.ptr b 0, .v (.int .i64 n)] H = some (.v (.int .i64 (nextV code a n)), H.set b [bytesL code, .v (.int .i64 ((a + 1 : Nat) : Int))]) := by
  have key : ∃ r, body Tryz.prog cfg0 40 Tryz.f40 [.ptr b 0, .v (.int .i64 n)] H = some r ∧ (r.1 = .v (.int .i64 (nextV code a n)) ∧ r.2 = H.set b [bytesL code, .v (.int .i64 ((a + 1 : Nat) : Int))]) := by
    refine body_wp (rs := [.tmp 4]) rfl rfl (R := fun x H' => x = .v (.int .i64 (nextV code a n)) ∧ H' = H.set b [bytesL code, .v (.int .i64 ((a + 1 : Nat) : Int))]) ?_
    have hp0 : ∀ b, cfg0.pol 40 b = 0 := fun b => rfl
    have w1 : IntKind.wrap .i64 (((a : Nat) : Int) + 1) = ((a + 1 : Nat) : Int) := wrap_succ (by omega)
    have w2 : IntKind.wrap .i64 (((a + 1 : Nat) : Int) - 1) = ((a : Nat) : Int) := by rw [wrap_i64 (by omega) (by omega)]; omega
    by_cases h1 : n < 1
    · have e : nextV code a n = 0 := nextV_0 code a h1
      rw [e]
      repeat' (first | ((first | refine wSeqr ?_ | refine wIf ?_ | refine wReg ?_ | (refine wRet ?_; (try simp only [thenQ, blockQ]); refine ends_by ?_)); intro xx hx; have hc := trivial; (repeat' (simp only [hc, Nat.reduceBEq, go_sem, Nat.reduceAdd, Nat.reduceMul, Nat.reduceSub, Nat.reduceEqDiff, Nat.reduceLT, Nat.reduceLeDiff, Int.reduceEq, Int.reduceLT, Int.reduceLE, reduceIte, aresults, aresult, hp0, hS, w1, h1] at hx; (try (rw [guardL_if] at hx; split at hx <;> rename_i hc)))); all_goals (subst hx; first | (refine ⟨_, rfl, fun ht => ?_, fun ht => ?_⟩ <;> (try simp only [bbs] at ht)) | (refine ⟨_, rfl, ?_⟩; (try simp only [tupOf])))) | refine wSkip ?_ | (refine wExit ?_; simp only [thenQ, blockQ, reduceIte, Nat.reduceEqDiff]) | refine wSeq ?_ | refine wBlock ?_)
      all_goals try (exfalso; (try simp only [bbs] at *); first | omega | exact absurd trivial (by assumption))
      all_goals (constructor <;> first | trivial | rfl)
    have hn0 : ¬ n = 0 := by omega
    by_cases hk0 : code.length = 0
    · have e : nextV code a n = ((a : Int) * 7) % n := by unfold nextV; rw [if_neg h1, if_pos hk0]
      have w3 : IntKind.wrap .i64 (((a : Nat) : Int) * 7) = (a : Int) * 7 := wrap_i64 (by omega) (by omega)
      have w4 : (((a : Nat) : Int) * 7).tmod n = (a : Int) * 7 % n := Int.tmod_eq_emod_of_nonneg (by omega)
      have hk1 : ((code.length : Nat) : Int) = 0 := by omega
      rw [e]
      repeat' (first | ((first | refine wSeqr ?_ | refine wIf ?_ | refine wReg ?_ | (refine wRet ?_; (try simp only [thenQ, blockQ]); refine ends_by ?_)); intro xx hx; have hc := trivial; (repeat' (simp only [hc, Nat.reduceBEq, go_sem, Nat.reduceAdd, Nat.reduceMul, Nat.reduceSub, Nat.reduceEqDiff, Nat.reduceLT, Nat.reduceLeDiff, Int.reduceEq, Int.reduceLT, Int.reduceLE, reduceIte, aresults, aresult, hp0, hS, w1, w2, w3, w4, h1, hn0, hk1] at hx; (try (rw [guardL_if] at hx; split at hx <;> rename_i hc)))); all_goals (subst hx; first | (refine ⟨_, rfl, fun ht => ?_, fun ht => ?_⟩ <;> (try simp only [bbs] at ht)) | (refine ⟨_, rfl, ?_⟩; (try simp only [tupOf])))) | refine wSkip ?_ | (refine wExit ?_; simp only [thenQ, blockQ, reduceIte, Nat.reduceEqDiff]) | refine wSeq ?_ | refine wBlock ?_)
      all_goals try (exfalso; (try simp only [bbs] at *); first | omega | exact absurd trivial (by assumption))
      all_goals (constructor <;> first | trivial | rfl)
    have hkp : 0 < code.length := by omega
    obtain ⟨z0, g0, -, m0⟩ := at_drop (l := code) (j := a % code.length) (Nat.mod_lt _ hkp)
    obtain ⟨z1, g1, -, m1⟩ := at_drop (l := code) (j := (a + 1) % code.length) (Nat.mod_lt _ hkp)
    obtain ⟨z2, g2, -, m2⟩ := at_drop (l := code) (j := (a + 2) % code.length) (Nat.mod_lt _ hkp)
    have b0 := hb z0 m0
    have b1 := hb z1 m1
    have b2 := hb z2 m2
    have hq0 : a / code.length ≤ a := Nat.div_le_self _ _
    generalize hqd : a / code.length = qd at hq0
    have t0 : ((a : Nat) : Int).tmod ((code.length : Nat) : Int) = ((a % code.length : Nat) : Int) := by rw [Int.tmod_eq_emod_of_nonneg (by omega)]; rfl
    have t1 : ((a + 1 : Nat) : Int).tmod ((code.length : Nat) : Int) = (((a + 1) % code.length : Nat) : Int) := by rw [Int.tmod_eq_emod_of_nonneg (by omega)]; rfl
    have t2 : ((a + 2 : Nat) : Int).tmod ((code.length : Nat) : Int) = (((a + 2) % code.length : Nat) : Int) := by rw [Int.tmod_eq_emod_of_nonneg (by omega)]; rfl
    have d0 : IntKind.wrap .i64 (((a : Nat) : Int).tdiv ((code.length : Nat) : Int)) = ((qd : Nat) : Int) := by
      rw [Int.tdiv_eq_ediv_of_nonneg (by omega), ← hqd]
      show IntKind.wrap .i64 (((a / code.length : Nat) : Int)) = _
      rw [hqd]; exact wrap_i64 (by omega) (by omega)
    have w3 : IntKind.wrap .i64 (((qd : Nat) : Int) * 37) = (qd : Int) * 37 := wrap_i64 (by omega) (by omega)
    have w4 : IntKind.wrap .i64 z0 = z0 := wrap_i64 (by omega) (by omega)
    have w5 : IntKind.wrap .i64 (z0 + (qd : Int) * 37) = z0 + (qd : Int) * 37 := wrap_i64 (by omega) (by omega)
    have w6 : IntKind.wrap .i64 z1 = z1 := wrap_i64 (by omega) (by omega)
    have w7 : IntKind.wrap .i64 z2 = z2 := wrap_i64 (by omega) (by omega)
    have wa2 : IntKind.wrap .i64 (((a : Nat) : Int) + 2) = ((a + 2 : Nat) : Int) := by rw [wrap_i64 (by omega) (by omega)]; omega
    have hk1 : ¬ ((code.length : Nat) : Int) = 0 := by omega
    have e : nextV code a n = (if 60000 < n then (if 200 < n then (z0 + (qd : Int) * 37) * 251 + z1 * 13 + a else z0 + (qd : Int) * 37) * 257 + z2 else (if 200 < n then (z0 + (qd : Int) * 37) * 251 + z1 * 13 + a else z0 + (qd : Int) * 37)) % n := by
      unfold nextV
      rw [if_neg h1, if_neg hk0, getD_of g0, getD_of g1, getD_of g2, hqd]
    rw [e]
    by_cases hn2 : 200 < n
    · have w8 : IntKind.wrap .i64 ((z0 + (qd : Int) * 37) * 251) = (z0 + (qd : Int) * 37) * 251 := wrap_i64 (by omega) (by omega)
      have w9 : IntKind.wrap .i64 (z1 * 13) = z1 * 13 := wrap_i64 (by omega) (by omega)
      have w10 : IntKind.wrap .i64 ((z0 + (qd : Int) * 37) * 251 + z1 * 13) = (z0 + (qd : Int) * 37) * 251 + z1 * 13 := wrap_i64 (by omega) (by omega)
      have w11 : IntKind.wrap .i64 ((z0 + (qd : Int) * 37) * 251 + z1 * 13 + (a : Nat)) = (z0 + (qd : Int) * 37) * 251 + z1 * 13 + (a : Nat) := wrap_i64 (by omega) (by omega)
      by_cases hn6 : 60000 < n
      · have w12 : IntKind.wrap .i64 (((z0 + (qd : Int) * 37) * 251 + z1 * 13 + (a : Nat)) * 257) = ((z0 + (qd : Int) * 37) * 251 + z1 * 13 + (a : Nat)) * 257 := wrap_i64 (by omega) (by omega)
        have w13 : IntKind.wrap .i64 (((z0 + (qd : Int) * 37) * 251 + z1 * 13 + (a : Nat)) * 257 + z2) = ((z0 + (qd : Int) * 37) * 251 + z1 * 13 + (a : Nat)) * 257 + z2 := wrap_i64 (by omega) (by omega)
        have w14 : (((z0 + (qd : Int) * 37) * 251 + z1 * 13 + (a : Nat)) * 257 + z2).tmod n = (((z0 + (qd : Int) * 37) * 251 + z1 * 13 + (a : Nat)) * 257 + z2) % n := Int.tmod_eq_emod_of_nonneg (by omega)
        rw [if_pos hn6, if_pos hn2]
        repeat' (first | ((first | refine wSeqr ?_ | refine wIf ?_ | refine wReg ?_ | (refine wRet ?_; (try simp only [thenQ, blockQ]); refine ends_by ?_)); intro xx hx; have hc := trivial; (repeat' (simp only [hc, Nat.reduceBEq, go_sem, Nat.reduceAdd, Nat.reduceMul, Nat.reduceSub, Nat.reduceEqDiff, Nat.reduceLT, Nat.reduceLeDiff, Int.reduceEq, Int.reduceLT, Int.reduceLE, reduceIte, aresults, aresult, hp0, hS, w1, w2, w3, w4, w5, w6, w7, wa2, w8, w9, w10, w11, w12, w13, w14, t0, t1, t2, d0, g0, g1, g2, h1, hn0, hk1, hn2, hn6, aconv_int u5 u2] at hx; (try (rw [guardL_if] at hx; split at hx <;> rename_i hc)))); all_goals (subst hx; first | (refine ⟨_, rfl, fun ht => ?_, fun ht => ?_⟩ <;> (try simp only [bbs] at ht)) | (refine ⟨_, rfl, ?_⟩; (try simp only [tupOf])))) | refine wSkip ?_ | (refine wExit ?_; simp only [thenQ, blockQ, reduceIte, Nat.reduceEqDiff]) | refine wSeq ?_ | refine wBlock ?_)
        all_goals try (exfalso; (try simp only [bbs] at *); first | omega | exact absurd trivial (by assumption))
        all_goals (constructor <;> first | trivial | rfl)
      · have w14 : ((z0 + (qd : Int) * 37) * 251 + z1 * 13 + (a : Nat)).tmod n = ((z0 + (qd : Int) * 37) * 251 + z1 * 13 + (a : Nat)) % n := Int.tmod_eq_emod_of_nonneg (by omega)
        rw [if_neg hn6, if_pos hn2]
        repeat' (first | ((first | refine wSeqr ?_ | refine wIf ?_ | refine wReg ?_ | (refine wRet ?_; (try simp only [thenQ, blockQ]); refine ends_by ?_)); intro xx hx; have hc := trivial; (repeat' (simp only [hc, Nat.reduceBEq, go_sem, Nat.reduceAdd, Nat.reduceMul, Nat.reduceSub, Nat.reduceEqDiff, Nat.reduceLT, Nat.reduceLeDiff, Int.reduceEq, Int.reduceLT, Int.reduceLE, reduceIte, aresults, aresult, hp0, hS, w1, w2, w3, w4, w5, w6, w8, w9, w10, w11, w14, t0, t1, d0, g0, g1, h1, hn0, hk1, hn2, hn6, aconv_int u5 u2] at hx; (try (rw [guardL_if] at hx; split at hx <;> rename_i hc)))); all_goals (subst hx; first | (refine ⟨_, rfl, fun ht => ?_, fun ht => ?_⟩ <;> (try simp only [bbs] at ht)) | (refine ⟨_, rfl, ?_⟩; (try simp only [tupOf])))) | refine wSkip ?_ | (refine wExit ?_; simp only [thenQ, blockQ, reduceIte, Nat.reduceEqDiff]) | refine wSeq ?_ | refine wBlock ?_)
        all_goals try (exfalso; (try simp only [bbs] at *); first | omega | exact absurd trivial (by assumption))
        all_goals (constructor <;> first | trivial | rfl)
    · have hn6 : ¬ 60000 < n := by omega
      have w14 : (z0 + (qd : Int) * 37).tmod n = (z0 + (qd : Int) * 37) % n := Int.tmod_eq_emod_of_nonneg (by omega)
      rw [if_neg hn6, if_neg hn2]
      repeat' (first | ((first | refine wSeqr ?_ | refine wIf ?_ | refine wReg ?_ | (refine wRet ?_; (try simp only [thenQ, blockQ]); refine ends_by ?_)); intro xx hx; have hc := trivial; (repeat' (simp only [hc, Nat.reduceBEq, go_sem, Nat.reduceAdd, Nat.reduceMul, Nat.reduceSub, Nat.reduceEqDiff, Nat.reduceLT, Nat.reduceLeDiff, Int.reduceEq, Int.reduceLT, Int.reduceLE, reduceIte, aresults, aresult, hp0, hS, w1, w2, w3, w4, w5, w14, t0, d0, g0, h1, hn0, hk1, hn2, hn6, aconv_int u5 u2] at hx; (try (rw [guardL_if] at hx; split at hx <;> rename_i hc)))); all_goals (subst hx; first | (refine ⟨_, rfl, fun ht => ?_, fun ht => ?_⟩ <;> (try simp only [bbs] at ht)) | (refine ⟨_, rfl, ?_⟩; (try simp only [tupOf])))) | refine wSkip ?_ | (refine wExit ?_; simp only [thenQ, blockQ, reduceIte, Nat.reduceEqDiff]) | refine wSeq ?_ | refine wBlock ?_)
      all_goals try (exfalso; (try simp only [bbs] at *); first | omega | exact absurd trivial (by assumption))
      all_goals (constructor <;> first | trivial | rfl)
  obtain ⟨⟨v, H'⟩, h1, rfl, rfl⟩ := key
  rw [call_raw Tryz.prog cfg0 Tryz.func40 rfl ok_Next rfl rfl, h1]
end
end Go.Proofs.YtakbbccdnkigpaaGreatDoor
namespace Go.Proofs.YtakbbccdnkigpaaGreatDoor
open Go Go.RowKit Go.Proofs.YtakbbccdnkigpaaGreatDoor.Eng
set_option linter.unusedSimpArgs false
set_option linter.unusedVariables false
set_option maxRecDepth 100000
set_option maxHeartbeats 4000000
noncomputable section
/-- A code that may be drawn from. -/
def CodeOk (code : List Int) : Prop := Eng.Bytes code ∧ code.length ≤ 1048576
/-- Block b is a source at place a of a code. -/
def Src (H : Hp) (b : Nat) (code : List Int) (a : Nat) : Prop := H.h b = some [bytesL code, .v (.int .i64 (a : Nat))] ∧ b < H.g
/-- Nothing but block b was written. -/
def Fr (b : Nat) (H K : Hp) : Prop := H.g ≤ K.g ∧ ∀ b', b' < H.g → b' ≠ b → K.h b' = H.h b'
theorem Fr.refl (b : Nat) (H : Hp) : Fr b H H := ⟨Nat.le_refl _, fun _ _ _ => rfl⟩
theorem Fr.trans {b : Nat} {H K L : Hp} (h : Fr b H K) (k : Fr b K L) : Fr b H L := ⟨Nat.le_trans h.1 k.1, fun b' h1 h2 => (k.2 b' (Nat.lt_of_lt_of_le h1 h.1) h2).trans (h.2 b' h1 h2)⟩
theorem Fr.new {b : Nat} {H K : Hp} (h : Fr b H K) (cs : List AV) : Fr b H (K.new cs) := ⟨by simp; have := h.1; omega, fun b' h1 h2 => by have := h.1; rw [Hp.new_h, if_neg (by omega)]; exact h.2 b' h1 h2⟩
theorem Fr.setB {b : Nat} {H K : Hp} (h : Fr b H K) (cs : List AV) : Fr b H (K.set b cs) := ⟨h.1, fun b' h1 h2 => by rw [Hp.set_h, if_neg h2]; exact h.2 b' h1 h2⟩
theorem Fr.setN {b p : Nat} {H K : Hp} (h : Fr b H K) (hp : H.g ≤ p) (cs : List AV) : Fr b H (K.set p cs) := ⟨h.1, fun b' h1 h2 => by rw [Hp.set_h, if_neg (by omega)]; exact h.2 b' h1 h2⟩
theorem Src.fr {b b' : Nat} {H K : Hp} {code : List Int} {a : Nat} (h : Src H b code a) (f : Fr b' H K) (hne : b ≠ b') : Src K b code a := ⟨(f.2 b h.2 hne).trans h.1, Nat.lt_of_lt_of_le h.2 f.1⟩
theorem Src.ext {b : Nat} {H K : Hp} {code : List Int} {a : Nat} (h : Src H b code a) (hg : H.g ≤ K.g) (hk : K.h b = H.h b) : Src K b code a := ⟨hk.trans h.1, Nat.lt_of_lt_of_le h.2 hg⟩
section
variable {code : List Int} {a : Nat} {H : Hp} {b : Nat} {q : Option (AV × Hp)}
theorem d_Next (hco : CodeOk code) (hS : Src H b code a) (ha : a ≤ 1000000000) {n : Int} (hn : n ≤ 1000000) (hq : call Tryz.prog cfg0 0 40 [.ptr b 0, .v (.int .i64 n)] H = q) :
    ∃ v H', q = some (.v (.int .i64 v), H') ∧ (0 ≤ v ∧ (1 ≤ n → v < n) ∧ (n < 1 → v = 0)) ∧ Src H' b code (a + 1) ∧ Fr b H H' ∧ H'.g = H.g := by
  refine ⟨_, _, hq.symm.trans (nextE hco.1 hco.2 ha n hn hS.1), ?_, ⟨by simp [Hp.set_h], hS.2⟩, (Fr.refl b H).setB _, rfl⟩
  by_cases h : 1 ≤ n
  · have := nextV_b code a h
    exact ⟨this.1, fun _ => this.2, by omega⟩
  · have := nextV_0 code a (n := n) (by omega)
    rw [this]
    exact ⟨by omega, by omega, fun _ => rfl⟩
theorem ok_Source : fnOk Tryz.prog cfg0 36 Tryz.f36 = true := by kernel_rfl
theorem d_Source (code : List Int) (H : Hp) : call Tryz.prog cfg0 0 36 [bytesL code] H = some (.ptr H.g 0, H.new [bytesL code, .v (.int .i64 ((0 : Nat) : Int))]) := by
  have key : ∃ r, body Tryz.prog cfg0 36 Tryz.f36 [bytesL code] H = some r ∧ (r.1 = .ptr H.g 0 ∧ r.2 = H.new [bytesL code, .v (.int .i64 ((0 : Nat) : Int))]) := by
    refine body_wp (rs := [.tmp 2]) rfl rfl (R := fun x H' => x = .ptr H.g 0 ∧ H' = H.new [bytesL code, .v (.int .i64 ((0 : Nat) : Int))]) ?_
    have hp0 : ∀ b, cfg0.pol 36 b = 0 := fun b => rfl
    repeat' (first | ((first | refine wSeqr ?_ | refine wIf ?_ | refine wReg ?_ | (refine wRet ?_; (try simp only [thenQ, blockQ]); refine ends_by ?_)); intro xx hx; have hc := trivial; (repeat' (simp only [hc, Nat.reduceBEq, go_sem, Nat.reduceAdd, Nat.reduceMul, Nat.reduceSub, Nat.reduceEqDiff, Nat.reduceLT, Nat.reduceLeDiff, Int.reduceEq, Int.reduceLT, Int.reduceLE, reduceIte, aresults, aresult, hp0] at hx; (try (rw [guardL_if] at hx; split at hx <;> rename_i hc)))); all_goals (subst hx; first | (refine ⟨_, rfl, fun ht => ?_, fun ht => ?_⟩ <;> (try simp only [bbs] at ht)) | (refine ⟨_, rfl, ?_⟩; (try simp only [tupOf])))) | refine wSkip ?_ | (refine wExit ?_; simp only [thenQ, blockQ, reduceIte, Nat.reduceEqDiff]) | refine wSeq ?_ | refine wBlock ?_)
    all_goals (constructor <;> first | trivial | rfl)
  obtain ⟨⟨v, H'⟩, h1, rfl, rfl⟩ := key
  rw [call_raw Tryz.prog cfg0 Tryz.func36 rfl ok_Source rfl rfl, h1]
theorem ok_Chance : fnOk Tryz.prog cfg0 37 Tryz.f37 = true := by kernel_rfl
theorem d_Chance (hco : CodeOk code) (hS : Src H b code a) (ha : a ≤ 1000000000) {n : Int} (hn : n ≤ 1000000) (hq : call Tryz.prog cfg0 0 37 [.ptr b 0, .v (.int .i64 n)] H = q) :
    ∃ v H', q = some (.v (.bool v), H') ∧ Src H' b code (a + 1) ∧ Fr b H H' ∧ H'.g = H.g := by
  subst hq
  have key : ∃ r, body Tryz.prog cfg0 37 Tryz.f37 [.ptr b 0, .v (.int .i64 n)] H = some r ∧ (∃ v, r.1 = .v (.bool v) ∧ Src r.2 b code (a + 1) ∧ Fr b H r.2 ∧ r.2.g = H.g) := by
    refine body_wp (rs := [.tmp 4]) rfl rfl (R := fun x H' => ∃ v, x = .v (.bool v) ∧ Src H' b code (a + 1) ∧ Fr b H H' ∧ H'.g = H.g) ?_
    have hp0 : ∀ b, cfg0.pol 37 b = 0 := fun b => rfl
    repeat' ((fail_if_success (first | refine wAt 1 ?_)); first | ((first | refine wSeqr ?_ | refine wIf ?_ | refine wReg ?_ | (refine wRet ?_; (try simp only [thenQ, blockQ]); refine ends_by ?_)); intro xx hx; have hc := trivial; (repeat' (simp only [hc, Nat.reduceBEq, go_sem, Nat.reduceAdd, Nat.reduceMul, Nat.reduceSub, Nat.reduceEqDiff, Nat.reduceLT, Nat.reduceLeDiff, Int.reduceEq, Int.reduceLT, Int.reduceLE, reduceIte, aresults, aresult, hp0] at hx; (try (rw [guardL_if] at hx; split at hx <;> rename_i hc)))); all_goals (subst hx; first | (refine ⟨_, rfl, fun ht => ?_, fun ht => ?_⟩ <;> (try simp only [bbs] at ht)) | (refine ⟨_, rfl, ?_⟩; (try simp only [tupOf])))) | refine wSkip ?_ | (refine wExit ?_; simp only [thenQ, blockQ, reduceIte, Nat.reduceEqDiff]) | refine wSeq ?_ | refine wBlock ?_)
    (first | refine wSeqr ?_ | refine wReg ?_); intro xx hx; have hc := trivial; (repeat' (simp only [hc, Nat.reduceBEq, go_sem, Nat.reduceAdd, Nat.reduceMul, Nat.reduceSub, Nat.reduceEqDiff, Nat.reduceLT, Nat.reduceLeDiff, Int.reduceEq, Int.reduceLT, Int.reduceLE, reduceIte, aresults, aresult, hp0] at hx; (try (rw [guardL_if] at hx; split at hx <;> rename_i hc)))); generalize hq : call Tryz.prog cfg0 0 _ _ _ = q at hx
    obtain ⟨v, H', rfl, h1, h2, h3, h4⟩ := d_Next hco hS ha hn hq
    have hc := trivial; (repeat' (simp only [hc, Nat.reduceBEq, go_sem, Nat.reduceAdd, Nat.reduceMul, Nat.reduceSub, Nat.reduceEqDiff, Nat.reduceLT, Nat.reduceLeDiff, Int.reduceEq, Int.reduceLT, Int.reduceLE, reduceIte, aresults, aresult, hp0] at hx; (try (rw [guardL_if] at hx; split at hx <;> rename_i hc)))); all_goals (subst hx; refine ⟨_, rfl, ?_⟩)
    repeat' (first | ((first | refine wSeqr ?_ | refine wIf ?_ | refine wReg ?_ | (refine wRet ?_; (try simp only [thenQ, blockQ]); refine ends_by ?_)); intro xx hx; have hc := trivial; (repeat' (simp only [hc, Nat.reduceBEq, go_sem, Nat.reduceAdd, Nat.reduceMul, Nat.reduceSub, Nat.reduceEqDiff, Nat.reduceLT, Nat.reduceLeDiff, Int.reduceEq, Int.reduceLT, Int.reduceLE, reduceIte, aresults, aresult, hp0] at hx; (try (rw [guardL_if] at hx; split at hx <;> rename_i hc)))); all_goals (subst hx; first | (refine ⟨_, rfl, fun ht => ?_, fun ht => ?_⟩ <;> (try simp only [bbs] at ht)) | (refine ⟨_, rfl, ?_⟩; (try simp only [tupOf])))) | refine wSkip ?_ | (refine wExit ?_; simp only [thenQ, blockQ, reduceIte, Nat.reduceEqDiff]) | refine wSeq ?_ | refine wBlock ?_)
    exact ⟨_, rfl, h2, h3, h4⟩
  obtain ⟨⟨x, H'⟩, h1, v, rfl, h2, h3, h4⟩ := key
  exact ⟨v, H', by rw [call_raw Tryz.prog cfg0 Tryz.func37 rfl ok_Chance rfl rfl, h1], h2, h3, h4⟩
theorem ok_Pick : fnOk Tryz.prog cfg0 38 Tryz.f38 = true := by kernel_rfl
theorem d_Pick (l : List Int) (hne : 0 < l.length ∧ l.length ≤ 1000) (hco : CodeOk code) (hS : Src H b code a) (ha : a ≤ 1000000000) (hq : call Tryz.prog cfg0 0 38 [.ptr b 0, .lst true (l.map fun z => [AV.v (.int .i64 z)])] H = q) :
    ∃ v H', q = some (.v (.int .i64 v), H') ∧ v ∈ l ∧ Src H' b code (a + 1) ∧ Fr b H H' ∧ H'.g = H.g := by
  subst hq
  have key : ∃ r, body Tryz.prog cfg0 38 Tryz.f38 [.ptr b 0, .lst true (l.map fun z => [AV.v (.int .i64 z)])] H = some r ∧ (∃ v, r.1 = .v (.int .i64 v) ∧ v ∈ l ∧ Src r.2 b code (a + 1) ∧ Fr b H r.2 ∧ r.2.g = H.g) := by
    refine body_wp (rs := [.tmp 4]) rfl rfl (R := fun x H' => ∃ v, x = .v (.int .i64 v) ∧ v ∈ l ∧ Src H' b code (a + 1) ∧ Fr b H H' ∧ H'.g = H.g) ?_
    have hp0 : ∀ b, cfg0.pol 38 b = 0 := fun b => rfl
    repeat' ((fail_if_success (first | refine wAt 1 ?_)); first | ((first | refine wSeqr ?_ | refine wIf ?_ | refine wReg ?_ | (refine wRet ?_; (try simp only [thenQ, blockQ]); refine ends_by ?_)); intro xx hx; have hc := trivial; (repeat' (simp only [hc, Nat.reduceBEq, go_sem, Nat.reduceAdd, Nat.reduceMul, Nat.reduceSub, Nat.reduceEqDiff, Nat.reduceLT, Nat.reduceLeDiff, Int.reduceEq, Int.reduceLT, Int.reduceLE, reduceIte, aresults, aresult, hp0] at hx; (try (rw [guardL_if] at hx; split at hx <;> rename_i hc)))); all_goals (subst hx; first | (refine ⟨_, rfl, fun ht => ?_, fun ht => ?_⟩ <;> (try simp only [bbs] at ht)) | (refine ⟨_, rfl, ?_⟩; (try simp only [tupOf])))) | refine wSkip ?_ | (refine wExit ?_; simp only [thenQ, blockQ, reduceIte, Nat.reduceEqDiff]) | refine wSeq ?_ | refine wBlock ?_)
    (first | refine wSeqr ?_ | refine wReg ?_); intro xx hx; have hc := trivial; (repeat' (simp only [hc, Nat.reduceBEq, go_sem, Nat.reduceAdd, Nat.reduceMul, Nat.reduceSub, Nat.reduceEqDiff, Nat.reduceLT, Nat.reduceLeDiff, Int.reduceEq, Int.reduceLT, Int.reduceLE, reduceIte, aresults, aresult, hp0, List.length_map] at hx; (try (rw [guardL_if] at hx; split at hx <;> rename_i hc)))); generalize hq : call Tryz.prog cfg0 0 _ _ _ = q at hx
    obtain ⟨v, H', rfl, h1, h2, h3, h4⟩ := d_Next hco hS ha (by omega) hq
    have hv := h1.2.1 (by omega)
    obtain ⟨z, hz, -, hm⟩ := at_drop (l := l) (j := v.toNat) (by omega)
    have hz' : (l.map fun z => [AV.v (.int .i64 z)])[v.toNat]? = some [.v (.int .i64 z)] := by rw [List.getElem?_map, hz]; rfl
    have hnat : natOf (.v (.int .i64 v)) = some v.toNat := by simp only [natOf]; rw [if_pos h1.1]
    have hc := trivial; (repeat' (simp only [hc, Nat.reduceBEq, go_sem, Nat.reduceAdd, Nat.reduceMul, Nat.reduceSub, Nat.reduceEqDiff, Nat.reduceLT, Nat.reduceLeDiff, Int.reduceEq, Int.reduceLT, Int.reduceLE, reduceIte, aresults, aresult, hp0, hnat, hz'] at hx; (try (rw [guardL_if] at hx; split at hx <;> rename_i hc)))); all_goals (subst hx; refine ⟨_, rfl, ?_⟩)
    repeat' (first | ((first | refine wSeqr ?_ | refine wIf ?_ | refine wReg ?_ | (refine wRet ?_; (try simp only [thenQ, blockQ]); refine ends_by ?_)); intro xx hx; have hc := trivial; (repeat' (simp only [hc, Nat.reduceBEq, go_sem, Nat.reduceAdd, Nat.reduceMul, Nat.reduceSub, Nat.reduceEqDiff, Nat.reduceLT, Nat.reduceLeDiff, Int.reduceEq, Int.reduceLT, Int.reduceLE, reduceIte, aresults, aresult, hp0] at hx; (try (rw [guardL_if] at hx; split at hx <;> rename_i hc)))); all_goals (subst hx; first | (refine ⟨_, rfl, fun ht => ?_, fun ht => ?_⟩ <;> (try simp only [bbs] at ht)) | (refine ⟨_, rfl, ?_⟩; (try simp only [tupOf])))) | refine wSkip ?_ | (refine wExit ?_; simp only [thenQ, blockQ, reduceIte, Nat.reduceEqDiff]) | refine wSeq ?_ | refine wBlock ?_)
    exact ⟨_, rfl, hm, h2, h3, h4⟩
  obtain ⟨⟨x, H'⟩, h1, v, rfl, h2, h3, h4, h5⟩ := key
  exact ⟨v, H', by rw [call_raw Tryz.prog cfg0 Tryz.func38 rfl ok_Pick rfl rfl, h1], h2, h3, h4, h5⟩
theorem ok_Some : fnOk Tryz.prog cfg0 39 Tryz.f39 = true := by kernel_rfl
/-- So many drawn bytes, in a block of their own. -/
theorem d_Some (hco : CodeOk code) (hS : Src H b code a) (n : Nat) (hn : n ≤ 100000) (ha : a + n ≤ 1000000000) {n' : Int} (hn' : n' = n) (hq : call Tryz.prog cfg0 0 39 [.ptr b 0, .v (.int .i64 n')] H = q) :
    ∃ x H' l, q = some (x, H') ∧ Eng.Bytes l ∧ l.length = n ∧ RAcc H' x 1 (l.map cell) n ∧ (∀ p, p < H.g → Off p x) ∧ Src H' b code (a + n) ∧ Fr b H H' := by
  subst hq
  subst hn'
  have key : ∃ r, body Tryz.prog cfg0 39 Tryz.f39 [.ptr b 0, .v (.int .i64 (n : Nat))] H = some r ∧ (∃ l, Eng.Bytes l ∧ l.length = n ∧ RAcc r.2 r.1 1 (l.map cell) n ∧ (∀ p, p < H.g → Off p r.1) ∧ Src r.2 b code (a + n) ∧ Fr b H r.2) := by
    refine body_wp (rs := [.tmp 4]) rfl rfl (R := fun x H' => ∃ l, Eng.Bytes l ∧ l.length = n ∧ RAcc H' x 1 (l.map cell) n ∧ (∀ p, p < H.g → Off p x) ∧ Src H' b code (a + n) ∧ Fr b H H') ?_
    have hp0 : ∀ b, cfg0.pol 39 b = 0 := fun b => rfl
    repeat' (first | ((first | refine wSeqr ?_ | refine wIf ?_ | refine wReg ?_ | (refine wRet ?_; (try simp only [thenQ, blockQ]); refine ends_by ?_)); intro xx hx; have hc := trivial; (repeat' (simp only [hc, Nat.reduceBEq, go_sem, Nat.reduceAdd, Nat.reduceMul, Nat.reduceSub, Nat.reduceEqDiff, Nat.reduceLT, Nat.reduceLeDiff, Int.reduceEq, Int.reduceLT, Int.reduceLE, reduceIte, aresults, aresult, hp0] at hx; (try (rw [guardL_if] at hx; split at hx <;> rename_i hc)))); all_goals (subst hx; first | (refine ⟨_, rfl, fun ht => ?_, fun ht => ?_⟩ <;> (try simp only [bbs] at ht)) | (refine ⟨_, rfl, ?_⟩; (try simp only [tupOf])))) | refine wSkip ?_ | (refine wExit ?_; simp only [thenQ, blockQ, reduceIte, Nat.reduceEqDiff]) | refine wSeq ?_ | refine wBlock ?_)
    refine wLoop (fun k s => ∃ (j : Nat) (x : AV) (l : List Int), j + k = n ∧ s.1 0 = .ptr b 0 ∧ s.1 1 = .v (.int .i64 ((n : Int) - (j : Nat))) ∧ s.1 5 = x ∧ (Eng.Bytes l ∧ l.length = j) ∧ (RAcc s.2 x 1 (l.map cell) j) ∧ (∀ p, p < H.g → Off p x) ∧ (Src s.2 b code (a + j)) ∧ (Fr b H s.2)) (fun k s hI => ?_) (n) _ ?_
    · obtain ⟨e, K⟩ := s
      obtain ⟨j, x, l, hj, h0, h1, h5, hb1, hr, hoff, hsrc, hfr⟩ := hI
      simp only at h0 h1 h5 hb1 hr hoff hsrc hfr
      by_cases hlt : j < n
      · have hgt : 0 < (n : Int) - ((j : Nat) : Int) := by omega
        repeat' ((fail_if_success (first | refine wAt 4 ?_)); first | ((first | refine wSeqr ?_ | refine wIf ?_ | refine wReg ?_ | (refine wRet ?_; (try simp only [thenQ, blockQ]); refine ends_by ?_)); intro xx hx; have hc := trivial; (repeat' (simp only [hc, Nat.reduceBEq, go_sem, Nat.reduceAdd, Nat.reduceMul, Nat.reduceSub, Nat.reduceEqDiff, Nat.reduceLT, Nat.reduceLeDiff, Int.reduceEq, Int.reduceLT, Int.reduceLE, reduceIte, aresults, aresult, hp0, h1, hgt] at hx; (try (rw [guardL_if] at hx; split at hx <;> rename_i hc)))); all_goals (subst hx; first | (refine ⟨_, rfl, fun ht => ?_, fun ht => ?_⟩ <;> (try simp only [bbs] at ht)) | (refine ⟨_, rfl, ?_⟩; (try simp only [tupOf])))) | refine wSkip ?_ | (refine wExit ?_; simp only [thenQ, blockQ, reduceIte, Nat.reduceEqDiff]) | refine wSeq ?_ | refine wBlock ?_)
        all_goals try (exfalso; (try simp only [bbs] at *); first | omega | exact absurd trivial (by assumption))
        (first | refine wSeqr ?_ | refine wReg ?_); intro xx hx; have hc := trivial; (repeat' (simp only [hc, Nat.reduceBEq, go_sem, Nat.reduceAdd, Nat.reduceMul, Nat.reduceSub, Nat.reduceEqDiff, Nat.reduceLT, Nat.reduceLeDiff, Int.reduceEq, Int.reduceLT, Int.reduceLE, reduceIte, aresults, aresult, hp0, h0, h5] at hx; (try (rw [guardL_if] at hx; split at hx <;> rename_i hc)))); generalize hq : call Tryz.prog cfg0 0 _ _ _ = q at hx
        obtain ⟨v, K1, rfl, v1, s1, f1, g1⟩ := d_Next hco hsrc (by omega) (by omega) hq
        clear hq
        have v2 := v1.2.1 (by omega)
        have w8 : IntKind.wrap .u8 v = v := wrap_u8 v1.1 (by omega)
        have w1 : IntKind.wrap .i64 ((n : Int) - ((j : Nat) : Int) - 1) = (n : Int) - ((j + 1 : Nat) : Int) := by rw [wrap_i64 (by omega) (by omega)]; omega
        have hc := trivial; (repeat' (simp only [hc, Nat.reduceBEq, go_sem, Nat.reduceAdd, Nat.reduceMul, Nat.reduceSub, Nat.reduceEqDiff, Nat.reduceLT, Nat.reduceLeDiff, Int.reduceEq, Int.reduceLT, Int.reduceLE, reduceIte, aresults, aresult, hp0, h5, w8, aconv_int u2 u5] at hx; (try (rw [guardL_if] at hx; split at hx <;> rename_i hc)))); generalize hq : aappend Tryz.prog _ _ _ _ = q at hx
        have hxb : Off b x := hoff b hS.2
        have hr1 : RAcc K1 x 1 (l.map cell) j := hr.keep (by omega) fun p hp ho => f1.2 p hp (fun e => ho (e ▸ hxb))
        obtain ⟨x', K2, rfl, hacc, hg2, hk2, ho2⟩ := app_rows hq el22 zero5 by5 int22 (sz := 1) rfl (by omega) hr1 (m := 1) rfl (afirst_one _ _ [cell v]) rfl (by omega) (by omega)
        have hc := trivial; (repeat' (simp only [hc, Nat.reduceBEq, go_sem, Nat.reduceAdd, Nat.reduceMul, Nat.reduceSub, Nat.reduceEqDiff, Nat.reduceLT, Nat.reduceLeDiff, Int.reduceEq, Int.reduceLT, Int.reduceLE, reduceIte, aresults, aresult, hp0] at hx; (try (rw [guardL_if] at hx; split at hx <;> rename_i hc)))); all_goals (subst hx; refine ⟨_, rfl, ?_⟩)
        repeat' (first | ((first | refine wSeqr ?_ | refine wIf ?_ | refine wReg ?_ | (refine wRet ?_; (try simp only [thenQ, blockQ]); refine ends_by ?_)); intro xx hx; have hc := trivial; (repeat' (simp only [hc, Nat.reduceBEq, go_sem, Nat.reduceAdd, Nat.reduceMul, Nat.reduceSub, Nat.reduceEqDiff, Nat.reduceLT, Nat.reduceLeDiff, Int.reduceEq, Int.reduceLT, Int.reduceLE, reduceIte, aresults, aresult, hp0, h1, w1] at hx; (try (rw [guardL_if] at hx; split at hx <;> rename_i hc)))); all_goals (subst hx; first | (refine ⟨_, rfl, fun ht => ?_, fun ht => ?_⟩ <;> (try simp only [bbs] at ht)) | (refine ⟨_, rfl, ?_⟩; (try simp only [tupOf])))) | refine wSkip ?_ | (refine wExit ?_; simp only [thenQ, blockQ, reduceIte, Nat.reduceEqDiff]) | refine wSeq ?_ | refine wBlock ?_)
        all_goals try (exfalso; (try simp only [bbs] at *); first | omega | exact absurd trivial (by assumption))
        have hfg := hfr.1
        refine ⟨_, Nat.sub_lt (by omega) Nat.one_pos, j + 1, x', l ++ [v], by omega, by simp only [upd_eq, Nat.reduceEqDiff, if_false, if_true, h0, h1, h5], by simp only [upd_eq, Nat.reduceEqDiff, if_false, if_true, h0, h1, h5], by simp only [upd_eq, Nat.reduceEqDiff, if_false, if_true, h0, h1, h5], ?_⟩
        have hbg : b < K1.g := s1.2
        have hg21 : H.g ≤ K1.g := by omega
        have hoff' : ∀ p, p < H.g → Off p x' := fun p hp => ho2 p (by omega) (hoff p hp)
        have hfr' : Fr b H K2 := ⟨by omega, fun p h1 h2 => (hk2 p (by omega) (hoff p h1)).trans ((f1.2 p (by omega) h2).trans (hfr.2 p h1 h2))⟩
        have hbg2 : b < K2.g := by omega
        refine ⟨⟨fun z hz => ?_, by simp [hb1.2]⟩, by simpa using hacc, hoff', ⟨(hk2 b hbg hxb).trans s1.1, hbg2⟩, hfr'⟩
        · rcases List.mem_append.1 hz with hz | hz
          · exact hb1.1 z hz
          · simp only [List.mem_singleton] at hz; omega
      · have hj' : j = n := by omega
        have hgt : ¬ 0 < (n : Int) - ((j : Nat) : Int) := by omega
        repeat' (first | ((first | refine wSeqr ?_ | refine wIf ?_ | refine wReg ?_ | (refine wRet ?_; (try simp only [thenQ, blockQ]); refine ends_by ?_)); intro xx hx; have hc := trivial; (repeat' (simp only [hc, Nat.reduceBEq, go_sem, Nat.reduceAdd, Nat.reduceMul, Nat.reduceSub, Nat.reduceEqDiff, Nat.reduceLT, Nat.reduceLeDiff, Int.reduceEq, Int.reduceLT, Int.reduceLE, reduceIte, aresults, aresult, hp0, h0, h1, h5, hgt] at hx; (try (rw [guardL_if] at hx; split at hx <;> rename_i hc)))); all_goals (subst hx; first | (refine ⟨_, rfl, fun ht => ?_, fun ht => ?_⟩ <;> (try simp only [bbs] at ht)) | (refine ⟨_, rfl, ?_⟩; (try simp only [tupOf])))) | refine wSkip ?_ | (refine wExit ?_; simp only [thenQ, blockQ, reduceIte, Nat.reduceEqDiff]) | refine wSeq ?_ | refine wBlock ?_)
        all_goals try (exfalso; (try simp only [bbs] at *); first | omega | exact absurd trivial (by assumption))
        subst hj'
        exact ⟨l, hb1.1, hb1.2, hr, hoff, hsrc, hfr⟩
    · refine ⟨0, .lst true [], [], by omega, rfl, ?_, rfl, ⟨fun z hz => by simp at hz, rfl⟩, RAcc.lst, fun p _ => off_lst, hS, Fr.refl _ _⟩
      simp only [upd_eq, Nat.reduceEqDiff, if_false]
      show AV.v (.int .i64 (n : Nat)) = _
      simp
  obtain ⟨⟨x, H'⟩, h1, l, h2, h3, h4, h5, h6, h7⟩ := key
  exact ⟨x, H', l, by rw [call_raw Tryz.prog cfg0 Tryz.func39 rfl ok_Some rfl rfl, h1], h2, h3, h4, h5, h6, h7⟩
end
end
end Go.Proofs.YtakbbccdnkigpaaGreatDoor
namespace Go.Proofs.YtakbbccdnkigpaaGreatDoor
open Go Go.RowKit Go.Proofs.YtakbbccdnkigpaaGreatDoor.Eng
set_option linter.unusedSimpArgs false
set_option linter.unusedVariables false
set_option maxRecDepth 100000
set_option maxHeartbeats 4000000
noncomputable section
/-- The bytes that a drawn key has. -/
def keyB (n : Int) : List Int := (List.range 16).map fun (i : Nat) => IntKind.wrap .u8 (n * 37 + (i : Int) * 11)
theorem keyB_len (n : Int) : (keyB n).length = 16 := by simp [keyB]
theorem keyB_bytes (n : Int) : Eng.Bytes (keyB n) := by
  intro z hz
  obtain ⟨i, -, rfl⟩ := List.mem_map.1 hz
  rw [wrap8]; omega
theorem ok_sl4Bytes : fnOk Tryz.prog cfg0 80 Tryz.f80 = true := by kernel_rfl
theorem pq_sl4Bytes (n : Int) (hn : 0 ≤ n ∧ n ≤ 1000000) : pure Tryz.prog cfg0 80 Tryz.f80 [.v (.int .i64 n)] = some (bytesL (keyB n), true) ∧ owned Tryz.prog cfg0 80 Tryz.f80 [.v (.int .i64 n)] = some (bytesL (keyB n)) := by
  refine both_wp (rs := [.tmp 2]) rfl rfl ?_
  have hp0 : ∀ b, cfg0.pol 80 b = 0 := fun b => rfl
  repeat' (first | ((first | refine wSeqr ?_ | refine wIf ?_ | refine wReg ?_ | (refine wRet ?_; (try simp only [thenQ, blockQ]); refine ends_by ?_)); intro xx hx; have hc := trivial; (repeat' (simp only [hc, Nat.reduceBEq, go_sem, Nat.reduceAdd, Nat.reduceMul, Nat.reduceSub, Nat.reduceEqDiff, Nat.reduceLT, Nat.reduceLeDiff, Int.reduceEq, Int.reduceLT, Int.reduceLE, reduceIte, aresults, aresult, hp0] at hx; (try (rw [guardL_if] at hx; split at hx <;> rename_i hc)))); all_goals (subst hx; first | (refine ⟨_, rfl, fun ht => ?_, fun ht => ?_⟩ <;> (try simp only [bbs] at ht)) | (refine ⟨_, rfl, ?_⟩; (try simp only [tupOf])))) | refine wSkip ?_ | (refine wExit ?_; simp only [thenQ, blockQ, reduceIte, Nat.reduceEqDiff]) | refine wSeq ?_ | refine wBlock ?_)
  refine wLoop (fun k s => ∃ (j : Nat) (x : AV), j + k = 16 ∧ s.1 0 = .v (.int .i64 n) ∧ s.1 3 = x ∧ s.1 4 = .v (.int .i64 (j : Nat)) ∧ (RAcc s.2 x 1 (((keyB n).take j).map cell) j)) (fun k s hI => ?_) (16) _ ?_
  · obtain ⟨e, H⟩ := s
    obtain ⟨j, x, hj, h0, h3, h4, hr⟩ := hI
    simp only at h0 h3 h4 hr
    by_cases hlt : j < 16
    · have hltI : ((j : Nat) : Int) < 16 := by omega
      have w1 : IntKind.wrap .i64 (n * 37) = n * 37 := wrap_i64 (by omega) (by omega)
      have w2 : IntKind.wrap .i64 (((j : Nat) : Int) * 11) = (j : Int) * 11 := wrap_i64 (by omega) (by omega)
      have w3 : IntKind.wrap .i64 (n * 37 + (j : Int) * 11) = n * 37 + (j : Int) * 11 := wrap_i64 (by omega) (by omega)
      have hg : (keyB n)[j]? = some (IntKind.wrap .u8 (n * 37 + (j : Int) * 11)) := by simp [keyB, hlt]
      repeat' ((fail_if_success (first | refine wAt 5 ?_)); first | ((first | refine wSeqr ?_ | refine wIf ?_ | refine wReg ?_ | (refine wRet ?_; (try simp only [thenQ, blockQ]); refine ends_by ?_)); intro xx hx; have hc := trivial; (repeat' (simp only [hc, Nat.reduceBEq, go_sem, Nat.reduceAdd, Nat.reduceMul, Nat.reduceSub, Nat.reduceEqDiff, Nat.reduceLT, Nat.reduceLeDiff, Int.reduceEq, Int.reduceLT, Int.reduceLE, reduceIte, aresults, aresult, hp0, h4, hltI] at hx; (try (rw [guardL_if] at hx; split at hx <;> rename_i hc)))); all_goals (subst hx; first | (refine ⟨_, rfl, fun ht => ?_, fun ht => ?_⟩ <;> (try simp only [bbs] at ht)) | (refine ⟨_, rfl, ?_⟩; (try simp only [tupOf])))) | refine wSkip ?_ | (refine wExit ?_; simp only [thenQ, blockQ, reduceIte, Nat.reduceEqDiff]) | refine wSeq ?_ | refine wBlock ?_)
      all_goals try (exfalso; (try simp only [bbs] at *); first | omega | exact absurd trivial (by assumption))
      (first | refine wSeqr ?_ | refine wReg ?_); intro xx hx; have hc := trivial; (repeat' (simp only [hc, Nat.reduceBEq, go_sem, Nat.reduceAdd, Nat.reduceMul, Nat.reduceSub, Nat.reduceEqDiff, Nat.reduceLT, Nat.reduceLeDiff, Int.reduceEq, Int.reduceLT, Int.reduceLE, reduceIte, aresults, aresult, hp0, h0, h3, h4, w1, w2, w3, aconv_int u2 u5] at hx; (try (rw [guardL_if] at hx; split at hx <;> rename_i hc)))); generalize hq : aappend Tryz.prog _ _ _ _ = q at hx
      obtain ⟨x', K2, rfl, hacc, hg2, hk2, ho2⟩ := app_rows hq el22 zero5 by5 int22 (sz := 1) rfl (by omega) hr (m := 1) rfl (afirst_one _ _ [cell (IntKind.wrap .u8 (n * 37 + (j : Int) * 11))]) rfl (by omega) (by omega)
      have hc := trivial; (repeat' (simp only [hc, Nat.reduceBEq, go_sem, Nat.reduceAdd, Nat.reduceMul, Nat.reduceSub, Nat.reduceEqDiff, Nat.reduceLT, Nat.reduceLeDiff, Int.reduceEq, Int.reduceLT, Int.reduceLE, reduceIte, aresults, aresult, hp0] at hx; (try (rw [guardL_if] at hx; split at hx <;> rename_i hc)))); all_goals (subst hx; refine ⟨_, rfl, ?_⟩)
      have wj := wrap_succ (show j < 9223372036854775807 by omega)
      repeat' (first | ((first | refine wSeqr ?_ | refine wIf ?_ | refine wReg ?_ | (refine wRet ?_; (try simp only [thenQ, blockQ]); refine ends_by ?_)); intro xx hx; have hc := trivial; (repeat' (simp only [hc, Nat.reduceBEq, go_sem, Nat.reduceAdd, Nat.reduceMul, Nat.reduceSub, Nat.reduceEqDiff, Nat.reduceLT, Nat.reduceLeDiff, Int.reduceEq, Int.reduceLT, Int.reduceLE, reduceIte, aresults, aresult, hp0, h4, wj] at hx; (try (rw [guardL_if] at hx; split at hx <;> rename_i hc)))); all_goals (subst hx; first | (refine ⟨_, rfl, fun ht => ?_, fun ht => ?_⟩ <;> (try simp only [bbs] at ht)) | (refine ⟨_, rfl, ?_⟩; (try simp only [tupOf])))) | refine wSkip ?_ | (refine wExit ?_; simp only [thenQ, blockQ, reduceIte, Nat.reduceEqDiff]) | refine wSeq ?_ | refine wBlock ?_)
      all_goals try (exfalso; (try simp only [bbs] at *); first | omega | exact absurd trivial (by assumption))
      refine ⟨_, Nat.sub_lt (by omega) Nat.one_pos, j + 1, x', by omega, by simp only [upd_eq, Nat.reduceEqDiff, if_false, if_true, h0, h3, h4], by simp only [upd_eq, Nat.reduceEqDiff, if_false, if_true, h0, h3, h4], by simp only [upd_eq, Nat.reduceEqDiff, if_false, if_true, h0, h3, h4], ?_⟩
      rw [at_take hg, List.map_append]
      exact hacc
    · have hltI : ¬ ((j : Nat) : Int) < 16 := by omega
      have hj' : j = 16 := by omega
      repeat' (first | ((first | refine wSeqr ?_ | refine wIf ?_ | refine wReg ?_ | (refine wRet ?_; (try simp only [thenQ, blockQ]); refine ends_by ?_)); intro xx hx; have hc := trivial; (repeat' (simp only [hc, Nat.reduceBEq, go_sem, Nat.reduceAdd, Nat.reduceMul, Nat.reduceSub, Nat.reduceEqDiff, Nat.reduceLT, Nat.reduceLeDiff, Int.reduceEq, Int.reduceLT, Int.reduceLE, reduceIte, aresults, aresult, hp0, h3, h4, hltI] at hx; (try (rw [guardL_if] at hx; split at hx <;> rename_i hc)))); all_goals (subst hx; first | (refine ⟨_, rfl, fun ht => ?_, fun ht => ?_⟩ <;> (try simp only [bbs] at ht)) | (refine ⟨_, rfl, ?_⟩; (try simp only [tupOf])))) | refine wSkip ?_ | (refine wExit ?_; simp only [thenQ, blockQ, reduceIte, Nat.reduceEqDiff]) | refine wSeq ?_ | refine wBlock ?_)
      all_goals try (exfalso; (try simp only [bbs] at *); first | omega | exact absurd trivial (by assumption))
      subst hj'
      rw [List.take_of_length_le (by rw [keyB_len]; omega)] at hr
      exact gO_bytesR hr
  · refine ⟨0, .lst true [], by omega, rfl, rfl, rfl, ?_⟩
    exact RAcc.lst
theorem c_sl4Bytes (n : Int) (hn : 0 ≤ n ∧ n ≤ 1000000) : ∀ H, call Tryz.prog cfg0 0 80 [.v (.int .i64 n)] H = some (bytesL (keyB n), H) :=
  call_fz Tryz.func80 rfl ok_sl4Bytes rfl (by simp only [fz_cons, fz_nil, go_sem, and_self]) (pq_sl4Bytes n hn).1
section
variable {code : List Int} {a : Nat} {H : Hp} {b : Nat} {q : Option (AV × Hp)}
theorem ok_Claim : fnOk Tryz.prog cfg0 81 Tryz.f81 = true := by kernel_rfl
theorem d_Claim (hco : CodeOk code) (hS : Src H b code a) (ha : a ≤ 999000000) (hq : call Tryz.prog cfg0 0 81 [.ptr b 0] H = q) :
    ∃ (c : ClaimM) (H' : Hp), q = some (.agg [.v (.int .i64 c.Node), .v (.int .i64 c.Inc), .v (.int .i64 c.Status), .v (.int .i64 c.Meta)], H') ∧ (0 ≤ c.Node ∧ c.Node ≤ 3 ∧ 0 ≤ c.Inc ∧ c.Inc ≤ 1000000 ∧ 0 ≤ c.Status ∧ c.Status ≤ 2 ∧ 0 ≤ c.Meta ∧ c.Meta ≤ 9999999) ∧ Src H' b code (a + 4) ∧ Fr b H H' := by
  subst hq
  have key : ∃ r, body Tryz.prog cfg0 81 Tryz.f81 [.ptr b 0] H = some r ∧ (∃ (c : ClaimM), r.1 = .agg [.v (.int .i64 c.Node), .v (.int .i64 c.Inc), .v (.int .i64 c.Status), .v (.int .i64 c.Meta)] ∧ (0 ≤ c.Node ∧ c.Node ≤ 3 ∧ 0 ≤ c.Inc ∧ c.Inc ≤ 1000000 ∧ 0 ≤ c.Status ∧ c.Status ≤ 2 ∧ 0 ≤ c.Meta ∧ c.Meta ≤ 9999999) ∧ Src r.2 b code (a + 4) ∧ Fr b H r.2) := by
    refine body_wp (rs := [.cell 2 43]) rfl rfl (R := fun x H' => ∃ (c : ClaimM), x = .agg [.v (.int .i64 c.Node), .v (.int .i64 c.Inc), .v (.int .i64 c.Status), .v (.int .i64 c.Meta)] ∧ (0 ≤ c.Node ∧ c.Node ≤ 3 ∧ 0 ≤ c.Inc ∧ c.Inc ≤ 1000000 ∧ 0 ≤ c.Status ∧ c.Status ≤ 2 ∧ 0 ≤ c.Meta ∧ c.Meta ≤ 9999999) ∧ Src H' b code (a + 4) ∧ Fr b H H') ?_
    have hp0 : ∀ b, cfg0.pol 81 b = 0 := fun b => rfl
    have hbg := hS.2
    repeat' ((fail_if_success (first | refine wAt 1 ?_)); first | ((first | refine wSeqr ?_ | refine wIf ?_ | refine wReg ?_ | (refine wRet ?_; (try simp only [thenQ, blockQ]); refine ends_by ?_)); intro xx hx; have hc := trivial; (repeat' (simp only [hc, Nat.reduceBEq, go_sem, Nat.reduceAdd, Nat.reduceMul, Nat.reduceSub, Nat.reduceEqDiff, Nat.reduceLT, Nat.reduceLeDiff, Int.reduceEq, Int.reduceLT, Int.reduceLE, reduceIte, aresults, aresult, hp0] at hx; (try (rw [guardL_if] at hx; split at hx <;> rename_i hc)))); all_goals (subst hx; first | (refine ⟨_, rfl, fun ht => ?_, fun ht => ?_⟩ <;> (try simp only [bbs] at ht)) | (refine ⟨_, rfl, ?_⟩; (try simp only [tupOf])))) | refine wSkip ?_ | (refine wExit ?_; simp only [thenQ, blockQ, reduceIte, Nat.reduceEqDiff]) | refine wSeq ?_ | refine wBlock ?_)
    (first | refine wSeqr ?_ | refine wReg ?_); intro xx hx; have hc := trivial; (repeat' (simp only [hc, Nat.reduceBEq, go_sem, Nat.reduceAdd, Nat.reduceMul, Nat.reduceSub, Nat.reduceEqDiff, Nat.reduceLT, Nat.reduceLeDiff, Int.reduceEq, Int.reduceLT, Int.reduceLE, reduceIte, aresults, aresult, hp0] at hx; (try (rw [guardL_if] at hx; split at hx <;> rename_i hc)))); generalize hq : call Tryz.prog cfg0 0 _ _ _ = q at hx
    have S0 : Src (H.new [.v (.int .i64 0), .v (.int .i64 0), .v (.int .i64 0), .v (.int .i64 0)]) b code a := hS.ext (by simp) (by rw [Hp.new_h, if_neg (by omega)])
    have F0 : Fr b H (H.new [.v (.int .i64 0), .v (.int .i64 0), .v (.int .i64 0), .v (.int .i64 0)]) := (Fr.refl b H).new _
    obtain ⟨v1, H1, rfl, b1, S1, F1, G1⟩ := d_Next hco S0 (by omega) (by omega) hq
    clear hq
    have hc := trivial; (repeat' (simp only [hc, Nat.reduceBEq, go_sem, Nat.reduceAdd, Nat.reduceMul, Nat.reduceSub, Nat.reduceEqDiff, Nat.reduceLT, Nat.reduceLeDiff, Int.reduceEq, Int.reduceLT, Int.reduceLE, reduceIte, aresults, aresult, hp0] at hx; (try (rw [guardL_if] at hx; split at hx <;> rename_i hc)))); generalize hq : call Tryz.prog cfg0 0 _ _ _ = q at hx
    obtain ⟨v2, H2, rfl, b2, S2, F2, G2⟩ := d_Pick [0, 1, 2, 3, 1000000] (by simp) hco S1 (by omega) hq
    clear hq
    have hc := trivial; (repeat' (simp only [hc, Nat.reduceBEq, go_sem, Nat.reduceAdd, Nat.reduceMul, Nat.reduceSub, Nat.reduceEqDiff, Nat.reduceLT, Nat.reduceLeDiff, Int.reduceEq, Int.reduceLT, Int.reduceLE, reduceIte, aresults, aresult, hp0] at hx; (try (rw [guardL_if] at hx; split at hx <;> rename_i hc)))); generalize hq : call Tryz.prog cfg0 0 _ _ _ = q at hx
    obtain ⟨v3, H3, rfl, b3, S3, F3, G3⟩ := d_Next hco S2 (by omega) (by omega) hq
    clear hq
    have hc := trivial; (repeat' (simp only [hc, Nat.reduceBEq, go_sem, Nat.reduceAdd, Nat.reduceMul, Nat.reduceSub, Nat.reduceEqDiff, Nat.reduceLT, Nat.reduceLeDiff, Int.reduceEq, Int.reduceLT, Int.reduceLE, reduceIte, aresults, aresult, hp0] at hx; (try (rw [guardL_if] at hx; split at hx <;> rename_i hc)))); generalize hq : call Tryz.prog cfg0 0 _ _ _ = q at hx
    obtain ⟨v4, H4, rfl, b4, S4, F4, G4⟩ := d_Pick [0, 80, 65616, 9999999] (by simp) hco S3 (by omega) hq
    clear hq
    have r4 : H4.h H.g = _ := (F4.2 H.g (by rw [G3, G2, G1]; simp) (by omega)).trans ((F3.2 H.g (by rw [G2, G1]; simp) (by omega)).trans ((F2.2 H.g (by rw [G1]; simp) (by omega)).trans ((F1.2 H.g (by simp) (by omega)).trans (new_same H _))))
    have hc := trivial; (repeat' (simp only [hc, Nat.reduceBEq, go_sem, Nat.reduceAdd, Nat.reduceMul, Nat.reduceSub, Nat.reduceEqDiff, Nat.reduceLT, Nat.reduceLeDiff, Int.reduceEq, Int.reduceLT, Int.reduceLE, reduceIte, aresults, aresult, hp0, r4] at hx; (try (rw [guardL_if] at hx; split at hx <;> rename_i hc)))); all_goals (subst hx; refine ⟨_, rfl, ?_⟩)
    repeat' (first | ((first | refine wSeqr ?_ | refine wIf ?_ | refine wReg ?_ | (refine wRet ?_; (try simp only [thenQ, blockQ]); refine ends_by ?_)); intro xx hx; have hc := trivial; (repeat' (simp only [hc, Nat.reduceBEq, go_sem, Nat.reduceAdd, Nat.reduceMul, Nat.reduceSub, Nat.reduceEqDiff, Nat.reduceLT, Nat.reduceLeDiff, Int.reduceEq, Int.reduceLT, Int.reduceLE, reduceIte, aresults, aresult, hp0] at hx; (try (rw [guardL_if] at hx; split at hx <;> rename_i hc)))); all_goals (subst hx; first | (refine ⟨_, rfl, fun ht => ?_, fun ht => ?_⟩ <;> (try simp only [bbs] at ht)) | (refine ⟨_, rfl, ?_⟩; (try simp only [tupOf])))) | refine wSkip ?_ | (refine wExit ?_; simp only [thenQ, blockQ, reduceIte, Nat.reduceEqDiff]) | refine wSeq ?_ | refine wBlock ?_)
    have c1 := b1.2.1 (by omega)
    have c3 := b3.2.1 (by omega)
    simp only [List.mem_cons, List.not_mem_nil, or_false] at b2 b4
    refine ⟨⟨v1, v2, v3, v4⟩, rfl, ⟨b1.1, by show v1 ≤ 3; omega, by show 0 ≤ v2; omega, by show v2 ≤ 1000000; omega, b3.1, by show v3 ≤ 2; omega, by show 0 ≤ v4; omega, by show v4 ≤ 9999999; omega⟩, S4.ext (Nat.le_refl _) (by rw [Hp.set_h, if_neg (by omega)]), (F0.trans (F1.trans (F2.trans (F3.trans F4)))).setN (Nat.le_refl _) _⟩
  obtain ⟨⟨x, H'⟩, h1, c, rfl, h2, h3, h4⟩ := key
  exact ⟨c, H', by rw [call_raw Tryz.prog cfg0 Tryz.func81 rfl ok_Claim rfl rfl, h1], h2, h3, h4⟩
end
end
end Go.Proofs.YtakbbccdnkigpaaGreatDoor
