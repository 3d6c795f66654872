/- Contracts: data read from its text, the program's side; ReadHex of both sides. -/
import Derived.Test.YtakbbccdnkigpaaGreatDoorV8
namespace Go.Proofs.YtakbbccdnkigpaaGreatDoor
open Go Go.RowKit Go.Proofs.YtakbbccdnkigpaaGreatDoor.Eng
set_option linter.unusedSimpArgs false
set_option linter.unusedVariables false
set_option maxRecDepth 100000
set_option maxHeartbeats 2000000
noncomputable section
theorem cz_Hex1 (n : Nat) (hn : n < 256) : ∀ H, call Tryz.prog cfg0 0 12 [.lst true [[.v (.int .u8 (n : Int))]]] H = some (.agg [.v (.int .i64 0), .v (.string (hexT n))], H) := fun H =>
  call_dz Tryz.func12 rfl ok_iHex1 rfl (Dzs.cons (show Dz depthD (.lst true [[.v (.int .u8 (n : Int))]]) (bytesL [(n : Int)]) from ⟨fun _ => rfl, rfl⟩) Dzs.nil) (p_iHex1 n hn) H
theorem ba_ext {a b : ByteArray} (h : a.data.toList = b.data.toList) : a = b := by cases a; cases b; simp at h; rw [h]
theorem slice_to2 {a : ByteArray} (h : 2 ≤ a.size) (e : Env) (H : Hp) : aslice Tryz.prog H e 9 (.v (.string a)) none (some (.const (.int .i64 2))) none = some (.v (.string (a.extract 0 2))) := by
  simp only [aslice, u9, Option.isSome_none, Bool.false_eq_true, if_false, bound, opd_int, natOf]
  rw [if_pos (by omega)]
  simp only [Option.bind_some]
  rw [if_pos ⟨Nat.zero_le _, by simpa using h⟩]; rfl
theorem slice_from2 {a : ByteArray} (h : 2 ≤ a.size) (e : Env) (H : Hp) : aslice Tryz.prog H e 9 (.v (.string a)) (some (.const (.int .i64 2))) none none = some (.v (.string (a.extract 2 a.size))) := by
  simp only [aslice, u9, Option.isSome_none, Bool.false_eq_true, if_false, bound, opd_int, natOf]
  rw [if_pos (by omega)]
  simp only [Option.bind_some]
  rw [if_pos ⟨by simpa using h, Nat.le_refl _⟩]; rfl
theorem conv_6b (k : IntKind) (n : Int) (H : Hp) : aconv Tryz.prog H 103 5 (.v (.int k n)) = some (.v (.int .u8 (IntKind.wrap .u8 n))) := by simp [aconv, u5, u103]
/-- What two signs are worth: read by the library, and written again. -/
theorem two_signs (a b : UInt8) : hexOk [(a.toNat : Int), (b.toNat : Int)] = true → ∃ n : Nat, n < 256 ∧ hv [(a.toNat : Int), (b.toNat : Int)] = n ∧
    (((hexT n).data.toList = [a, b] ∧ 0 ≤ nibZ (a.toNat : Int) ∧ 0 ≤ nibZ (b.toNat : Int) ∧ (n : Int) = 16 * nibZ (a.toNat : Int) + nibZ (b.toNat : Int)) ∨ (¬ (hexT n).data.toList = [a, b] ∧ ¬ (0 ≤ nibZ (a.toNat : Int) ∧ 0 ≤ nibZ (b.toNat : Int)))) := by
  intro h
  have hA := nib_hexZ ⟨a.toNat, UInt8.toNat_lt a⟩
  have hB := nib_hexZ ⟨b.toNat, UInt8.toNat_lt b⟩
  simp only at hA hB
  simp only [hexOk, List.all_cons, List.all_nil, Bool.and_true, Bool.and_eq_true, decide_eq_true_eq] at h
  obtain ⟨x, hx⟩ : ∃ x : Nat, hexZ (a.toNat : Int) = x := ⟨(hexZ (a.toNat : Int)).toNat, by omega⟩
  obtain ⟨y, hy⟩ : ∃ y : Nat, hexZ (b.toNat : Int) = y := ⟨(hexZ (b.toNat : Int)).toNat, by omega⟩
  rw [hx] at hA h; rw [hy] at hB h
  have hv1 : hv [(a.toNat : Int), (b.toNat : Int)] = ((16 * x + y : Nat) : Int) := by
    simp only [hv, List.foldl_cons, List.foldl_nil, hx, hy]; omega
  refine ⟨16 * x + y, by omega, hv1, ?_⟩
  have ht : (hexT (16 * x + y)).data.toList = [hexB x, hexB y] := by
    show [hexB ((16 * x + y) / 16), hexB ((16 * x + y) % 16)] = _
    rw [show (16 * x + y) / 16 = x by omega, show (16 * x + y) % 16 = y by omega]
  rw [ht]
  have ea : ((hexB ((x : Int)).toNat).toNat : Int) = (a.toNat : Int) ↔ hexB x = a := by
    rw [Int.toNat_natCast]
    constructor
    · intro h; exact UInt8.toNat_inj.1 (by omega)
    · rintro rfl; rfl
  have eb : ((hexB ((y : Int)).toNat).toNat : Int) = (b.toNat : Int) ↔ hexB y = b := by
    rw [Int.toNat_natCast]
    constructor
    · intro h; exact UInt8.toNat_inj.1 (by omega)
    · rintro rfl; rfl
  rw [ea] at hA; rw [eb] at hB
  by_cases hab : hexB x = a ∧ hexB y = b
  · left
    have na := hA.1.2 ⟨h.1, hab.1⟩
    have nb := hB.1.2 ⟨h.2, hab.2⟩
    refine ⟨by rw [hab.1, hab.2], na, nb, ?_⟩
    have := hA.2.1 na
    have := hB.2.1 nb
    omega
  · right
    refine ⟨fun e => ?_, fun ⟨na, nb⟩ => hab ⟨(hA.1.1 na).2, (hB.1.1 nb).2⟩⟩
    simp only [List.cons.injEq, and_true] at e
    exact hab e
theorem two_bad {a b : UInt8} (h : ¬ hexOk [(a.toNat : Int), (b.toNat : Int)] = true) : ¬ (0 ≤ nibZ (a.toNat : Int) ∧ 0 ≤ nibZ (b.toNat : Int)) := by
  rintro ⟨na, nb⟩
  have hA := nib_hexZ ⟨a.toNat, UInt8.toNat_lt a⟩
  have hB := nib_hexZ ⟨b.toNat, UInt8.toNat_lt b⟩
  refine h ?_
  simp only [hexOk, List.all_cons, List.all_nil, Bool.and_true, Bool.and_eq_true, decide_eq_true_eq]
  exact ⟨(hA.1.1 na).1, (hB.1.1 nb).1⟩
/-- How the program reads: what was read, and whether nothing is left; none: a pair of signs is none. -/
def hexUn : List UInt8 → Option (List Int × Bool)
  | [] => some ([], true)
  | [_] => some ([], false)
  | a :: b :: r => if 0 ≤ nibZ (a.toNat : Int) ∧ 0 ≤ nibZ (b.toNat : Int) then (hexUn r).map fun p => ((16 * nibZ (a.toNat : Int) + nibZ (b.toNat : Int)) :: p.1, p.2) else none
theorem hexUn_rd : ∀ (n : Nat) (l : List UInt8), l.length ≤ n → hexRd l = match hexUn l with
    | some (o, true) => some o
    | _ => none := by
  intro n
  induction n with
  | zero => intro l h; obtain rfl : l = [] := List.length_eq_zero_iff.1 (by omega); rfl
  | succ n ih =>
    intro l h
    match l, h with
    | [], _ => rfl
    | [a], _ => rfl
    | a :: b :: r, h =>
      have := ih r (by simp only [List.length_cons] at h; omega)
      simp only [hexRd, hexUn]
      split
      · rw [this]
        cases hexUn r with
        | none => rfl
        | some p =>
          obtain ⟨o, f⟩ := p
          cases f <;> rfl
      · rfl
def Ru (w : List UInt8) (j : Nat) (o : List Int) : Prop := o.length = j ∧ Bytes o ∧ 2 * j ≤ w.length ∧ hexUn w = (hexUn (w.drop (2 * j))).map fun p => (o ++ p.1, p.2)
theorem Ru.zero (w : List UInt8) : Ru w 0 [] := ⟨rfl, fun z h => by simp at h, by omega, by simp⟩
theorem Ru.next {w : List UInt8} {j : Nat} {o : List Int} {a b : UInt8} (h : Ru w j o) (h2 : 2 * j + 2 ≤ w.length) (hd : w.drop (2 * j) = a :: b :: w.drop (2 * (j + 1))) (ha : 0 ≤ nibZ (a.toNat : Int)) (hb : 0 ≤ nibZ (b.toNat : Int)) :
    Ru w (j + 1) (o ++ [16 * nibZ (a.toNat : Int) + nibZ (b.toNat : Int)]) := by
  obtain ⟨h1, h2', h3, h4⟩ := h
  have ba := nibZ_b a
  have bb := nibZ_b b
  refine ⟨by simp [h1], fun z hz => ?_, by omega, ?_⟩
  · rcases List.mem_append.1 hz with hz | hz
    · exact h2' z hz
    · simp at hz; omega
  · rw [h4, hd, hexUn, if_pos ⟨ha, hb⟩, Option.map_map]
    congr 1
    funext p; simp
theorem Ru.bad {w : List UInt8} {j : Nat} {o : List Int} {a b : UInt8} (h : Ru w j o) (hd : w.drop (2 * j) = a :: b :: w.drop (2 * (j + 1))) (hab : ¬ (0 ≤ nibZ (a.toNat : Int) ∧ 0 ≤ nibZ (b.toNat : Int))) : hexUn w = none := by
  rw [h.2.2.2, hd, hexUn, if_neg hab]; rfl
theorem Ru.fin {w : List UInt8} {j : Nat} {o : List Int} (h : Ru w j o) (he : w.length = 2 * j) : hexUn w = some (o, true) := by
  rw [h.2.2.2, List.drop_of_length_le (by omega)]; simp [hexUn]
theorem Ru.odd {w : List UInt8} {j : Nat} {o : List Int} {c : UInt8} (h : Ru w j o) (hd : w.drop (2 * j) = [c]) : hexUn w = some (o, false) := by
  rw [h.2.2.2, hd]; simp [hexUn]
def unRes (w : List UInt8) : AV := match hexUn w with
  | some (l, b) => .tup [bytesL l, .v (.bool b)]
  | none => .tup [.lst false [], .v (.bool false)]
theorem ok_iunhex : fnOk Tryz.prog cfg0 43 Tryz.f43 = true := by kernel_rfl
theorem pq_iunhex (z : ByteArray) (hz : z.size ≤ 1048576) : pure Tryz.prog cfg0 43 Tryz.f43 [.v (.string z)] = some (unRes z.data.toList, true) ∧ owned Tryz.prog cfg0 43 Tryz.f43 [.v (.string z)] = some (unRes z.data.toList) := by
  refine both_wp (rs := [.tmp 2, .tmp 3]) rfl rfl ?_
  have hp0 : ∀ b, cfg0.pol 43 b = 0 := fun b => rfl
  have hsz := size_toList z
  generalize hw : z.data.toList = w at hsz ⊢
  have hwl : w.length ≤ 1048576 := by omega
  repeat' (first | ((first | refine wSeqr ?_ | refine wIf ?_ | refine wReg ?_ | (refine wRet ?_; (try simp only [thenQ, blockQ]); refine ends_by ?_)); intro xx hx; have hc := trivial; (repeat' (simp only [hc, Nat.reduceBEq, go_sem, Nat.reduceAdd, Nat.reduceMul, Nat.reduceSub, Nat.reduceEqDiff, Nat.reduceLT, Nat.reduceLeDiff, Int.reduceEq, Int.reduceLT, Int.reduceLE, reduceIte, aresults, aresult, hp0] at hx; (try (rw [guardL_if] at hx; split at hx <;> rename_i hc)))); all_goals (subst hx; first | (refine ⟨_, rfl, fun ht => ?_, fun ht => ?_⟩ <;> (try simp only [bbs] at ht)) | (refine ⟨_, rfl, ?_⟩; (try simp only [tupOf])))) | refine wSkip ?_ | (refine wExit ?_; simp only [thenQ, blockQ, reduceIte, Nat.reduceEqDiff]) | refine wSeq ?_ | refine wBlock ?_)
  refine wLoop (fun k s => ∃ (j : Nat) (o : List Int) (u : ByteArray) (i : Nat), j + k = w.length ∧ s.1 0 = .v (.string u) ∧ s.1 2 = .v (.slice none 0 0) ∧ (j = 2 * i) ∧ (RAcc s.2 (s.1 4) 1 (o.map cell) i) ∧ (Ru w i o) ∧ (u.data.toList = w.drop (2 * i))) (fun k s hI => ?_) (w.length) _ ?_
  · obtain ⟨e, H⟩ := s
    obtain ⟨j, o, u, i, hj, h0, h2, hij, hacc, hrd, hu⟩ := hI
    simp only at h0 h2 hij hacc hrd hu
    have hus := size_toList u
    rw [hu, List.length_drop] at hus
    have hil := hrd.2.2.1
    by_cases hlt : 2 ≤ u.size
    · obtain ⟨a, b, ga, gb, hd⟩ := two_at (w := w) (j := i) (by omega)
      have hltI : 2 ≤ (u.size : Int) := by omega
      have hs1 := slice_to2 hlt
      have hs2 := slice_from2 hlt
      have e1 : u.extract 0 2 = ⟨#[a, b]⟩ := ba_ext (by rw [extract_list, hu, hd]; rfl)
      have hu2 : (u.extract 2 u.size).data.toList = w.drop (2 * (i + 1)) := by
        rw [extract_list, hu, hus, List.drop_drop, List.take_of_length_le]
        · rfl
        · rw [List.length_drop]; omega
      rw [e1] at hs1
      by_cases hok : hexOk [(a.toNat : Int), (b.toNat : Int)] = true
      · obtain ⟨n, hn, hvn, hcase⟩ := two_signs a b hok
        have hpu : pu [(a.toNat : Int), (b.toNat : Int)] = .tup [.v (.int .u64 (n : Int)), .v .nilIface] := by unfold pu; rw [if_pos hok, hvn]
        have hcp := c_sPU a b
        rw [hpu] at hcp
        have w1 : IntKind.wrap .u8 (n : Int) = n := wrap_u8 (by omega) (by omega)
        rcases hcase with ⟨ht, na, nb, hnv⟩ | ⟨ht, hbad⟩
        · have ht' : (hexT n).data.toList = (⟨#[a, b]⟩ : ByteArray).data.toList := ht
          repeat' (first | ((first | refine wSeqr ?_ | refine wIf ?_ | refine wReg ?_ | (refine wRet ?_; (try simp only [thenQ, blockQ]); refine ends_by ?_)); intro xx hx; have hc := trivial; (repeat' (simp only [hc, Nat.reduceBEq, go_sem, Nat.reduceAdd, Nat.reduceMul, Nat.reduceSub, Nat.reduceEqDiff, Nat.reduceLT, Nat.reduceLeDiff, Int.reduceEq, Int.reduceLT, Int.reduceLE, reduceIte, aresults, aresult, hp0, h0, h2, hltI, hs1, hs2, hcp, conv_6b, w1, cz_Hex1 n hn, str_eq, ht, ht'] at hx; (try (rw [guardL_if] at hx; split at hx <;> rename_i hc)))); all_goals (subst hx; first | (refine ⟨_, rfl, fun ht => ?_, fun ht => ?_⟩ <;> (try simp only [bbs] at ht)) | (refine ⟨_, rfl, ?_⟩; (try simp only [tupOf])))) | refine wSkip ?_ | (refine wExit ?_; simp only [thenQ, blockQ, reduceIte, Nat.reduceEqDiff]) | refine wSeq ?_ | refine wBlock ?_)
          all_goals try (exfalso; (try simp only [bbs] at *); first | omega | exact absurd trivial (by assumption))
          (first | refine wSeqr ?_ | refine wReg ?_); intro xx hx; have hc := trivial; (repeat' (simp only [hc, Nat.reduceBEq, go_sem, Nat.reduceAdd, Nat.reduceMul, Nat.reduceSub, Nat.reduceEqDiff, Nat.reduceLT, Nat.reduceLeDiff, Int.reduceEq, Int.reduceLT, Int.reduceLE, reduceIte, aresults, aresult, hp0, conv_6b, w1] at hx; (try (rw [guardL_if] at hx; split at hx <;> rename_i hc)))); generalize hq : aappend Tryz.prog _ _ _ _ = q at hx
          obtain ⟨x', H', rfl, hacc', -, -⟩ := app_rows hq el22 zero5 by5 int22 (sz := 1) rfl (by omega) hacc (m := 1) (ys := [.v (.int .u8 (n : Int))]) rfl rfl (by simp) (by omega) (by omega)
          have hc := trivial; (repeat' (simp only [hc, Nat.reduceBEq, go_sem, Nat.reduceAdd, Nat.reduceMul, Nat.reduceSub, Nat.reduceEqDiff, Nat.reduceLT, Nat.reduceLeDiff, Int.reduceEq, Int.reduceLT, Int.reduceLE, reduceIte, aresults, aresult, hp0] at hx; (try (rw [guardL_if] at hx; split at hx <;> rename_i hc)))); all_goals (subst hx; refine ⟨_, rfl, ?_⟩)
          repeat' (first | ((first | refine wSeqr ?_ | refine wIf ?_ | refine wReg ?_ | (refine wRet ?_; (try simp only [thenQ, blockQ]); refine ends_by ?_)); intro xx hx; have hc := trivial; (repeat' (simp only [hc, Nat.reduceBEq, go_sem, Nat.reduceAdd, Nat.reduceMul, Nat.reduceSub, Nat.reduceEqDiff, Nat.reduceLT, Nat.reduceLeDiff, Int.reduceEq, Int.reduceLT, Int.reduceLE, reduceIte, aresults, aresult, hp0, h0, hs2] at hx; (try (rw [guardL_if] at hx; split at hx <;> rename_i hc)))); all_goals (subst hx; first | (refine ⟨_, rfl, fun ht => ?_, fun ht => ?_⟩ <;> (try simp only [bbs] at ht)) | (refine ⟨_, rfl, ?_⟩; (try simp only [tupOf])))) | refine wSkip ?_ | (refine wExit ?_; simp only [thenQ, blockQ, reduceIte, Nat.reduceEqDiff]) | refine wSeq ?_ | refine wBlock ?_)
          refine ⟨w.length - (j + 2), by omega, j + 2, o ++ [16 * nibZ (a.toNat : Int) + nibZ (b.toNat : Int)], u.extract 2 u.size, i + 1, by omega, by simp only [upd_eq, Nat.reduceEqDiff, if_false, if_true, h0, h2], by simp only [upd_eq, Nat.reduceEqDiff, if_false, if_true, h0, h2], by omega, ?_, hrd.next (by omega) hd na nb, hu2⟩
          simp only [upd_eq, Nat.reduceEqDiff, if_false, if_true]
          rw [← hnv]
          simpa [cell] using hacc'
        · have hno : unRes w = .tup [.lst false [], .v (.bool false)] := by unfold unRes; rw [hrd.bad hd hbad]
          have ht' : ¬ (hexT n).data.toList = (⟨#[a, b]⟩ : ByteArray).data.toList := ht
          rw [hno]
          repeat' (first | ((first | refine wSeqr ?_ | refine wIf ?_ | refine wReg ?_ | (refine wRet ?_; (try simp only [thenQ, blockQ]); refine ends_by ?_)); intro xx hx; have hc := trivial; (repeat' (simp only [hc, Nat.reduceBEq, go_sem, Nat.reduceAdd, Nat.reduceMul, Nat.reduceSub, Nat.reduceEqDiff, Nat.reduceLT, Nat.reduceLeDiff, Int.reduceEq, Int.reduceLT, Int.reduceLE, reduceIte, aresults, aresult, hp0, h0, h2, hltI, hs1, hs2, hcp, conv_6b, w1, cz_Hex1 n hn, str_eq, ht, ht'] at hx; (try (rw [guardL_if] at hx; split at hx <;> rename_i hc)))); all_goals (subst hx; first | (refine ⟨_, rfl, fun ht => ?_, fun ht => ?_⟩ <;> (try simp only [bbs] at ht)) | (refine ⟨_, rfl, ?_⟩; (try simp only [tupOf])))) | refine wSkip ?_ | (refine wExit ?_; simp only [thenQ, blockQ, reduceIte, Nat.reduceEqDiff]) | refine wSeq ?_ | refine wBlock ?_)
          all_goals try (exfalso; (try simp only [bbs] at *); first | omega | exact absurd trivial (by assumption))
          all_goals exact gives_pair0
      · have hpu : pu [(a.toNat : Int), (b.toNat : Int)] = .tup [.v (.int .u64 0), .ifc true] := by unfold pu; rw [if_neg hok]
        have hcp := c_sPU a b
        rw [hpu] at hcp
        have hno : unRes w = .tup [.lst false [], .v (.bool false)] := by unfold unRes; rw [hrd.bad hd (two_bad hok)]
        rw [hno]
        repeat' (first | ((first | refine wSeqr ?_ | refine wIf ?_ | refine wReg ?_ | (refine wRet ?_; (try simp only [thenQ, blockQ]); refine ends_by ?_)); intro xx hx; have hc := trivial; (repeat' (simp only [hc, Nat.reduceBEq, go_sem, Nat.reduceAdd, Nat.reduceMul, Nat.reduceSub, Nat.reduceEqDiff, Nat.reduceLT, Nat.reduceLeDiff, Int.reduceEq, Int.reduceLT, Int.reduceLE, reduceIte, aresults, aresult, hp0, h0, h2, hltI, hs1, hs2, hcp] at hx; (try (rw [guardL_if] at hx; split at hx <;> rename_i hc)))); all_goals (subst hx; first | (refine ⟨_, rfl, fun ht => ?_, fun ht => ?_⟩ <;> (try simp only [bbs] at ht)) | (refine ⟨_, rfl, ?_⟩; (try simp only [tupOf])))) | refine wSkip ?_ | (refine wExit ?_; simp only [thenQ, blockQ, reduceIte, Nat.reduceEqDiff]) | refine wSeq ?_ | refine wBlock ?_)
        all_goals try (exfalso; (try simp only [bbs] at *); first | omega | exact absurd trivial (by assumption))
        all_goals exact gives_pair0
    · have hltI : ¬ 2 ≤ (u.size : Int) := by omega
      by_cases he : w.length = 2 * i
      · have hue : u.data.toList = (⟨#[]⟩ : ByteArray).data.toList := by rw [hu, List.drop_of_length_le (by omega)]
        have hue' : u.data.toList = [] := hue
        have hyes : unRes w = .tup [bytesL o, .v (.bool true)] := by unfold unRes; rw [hrd.fin he]
        rw [hyes]
        repeat' (first | ((first | refine wSeqr ?_ | refine wIf ?_ | refine wReg ?_ | (refine wRet ?_; (try simp only [thenQ, blockQ]); refine ends_by ?_)); intro xx hx; have hc := trivial; (repeat' (simp only [hc, Nat.reduceBEq, go_sem, Nat.reduceAdd, Nat.reduceMul, Nat.reduceSub, Nat.reduceEqDiff, Nat.reduceLT, Nat.reduceLeDiff, Int.reduceEq, Int.reduceLT, Int.reduceLE, reduceIte, aresults, aresult, hp0, h0, h2, hltI, str_eq, hue, hue'] at hx; (try (rw [guardL_if] at hx; split at hx <;> rename_i hc)))); all_goals (subst hx; first | (refine ⟨_, rfl, fun ht => ?_, fun ht => ?_⟩ <;> (try simp only [bbs] at ht)) | (refine ⟨_, rfl, ?_⟩; (try simp only [tupOf])))) | refine wSkip ?_ | (refine wExit ?_; simp only [thenQ, blockQ, reduceIte, Nat.reduceEqDiff]) | refine wSeq ?_ | refine wBlock ?_)
        all_goals try (exfalso; (try simp only [bbs] at *); first | omega | exact absurd trivial (by assumption))
        all_goals exact gives_pair hacc hrd.1.symm
      · obtain ⟨c, hc1⟩ : ∃ c, w.drop (2 * i) = [c] := List.length_eq_one_iff.1 (by rw [List.length_drop]; omega)
        have hue : ¬ u.data.toList = (⟨#[]⟩ : ByteArray).data.toList := by rw [hu, hc1]; simp
        have hue' : ¬ u.data.toList = [] := by rw [hu, hc1]; simp
        have hyes : unRes w = .tup [bytesL o, .v (.bool false)] := by unfold unRes; rw [hrd.odd hc1]
        rw [hyes]
        repeat' (first | ((first | refine wSeqr ?_ | refine wIf ?_ | refine wReg ?_ | (refine wRet ?_; (try simp only [thenQ, blockQ]); refine ends_by ?_)); intro xx hx; have hc := trivial; (repeat' (simp only [hc, Nat.reduceBEq, go_sem, Nat.reduceAdd, Nat.reduceMul, Nat.reduceSub, Nat.reduceEqDiff, Nat.reduceLT, Nat.reduceLeDiff, Int.reduceEq, Int.reduceLT, Int.reduceLE, reduceIte, aresults, aresult, hp0, h0, h2, hltI, str_eq, hue, hue'] at hx; (try (rw [guardL_if] at hx; split at hx <;> rename_i hc)))); all_goals (subst hx; first | (refine ⟨_, rfl, fun ht => ?_, fun ht => ?_⟩ <;> (try simp only [bbs] at ht)) | (refine ⟨_, rfl, ?_⟩; (try simp only [tupOf])))) | refine wSkip ?_ | (refine wExit ?_; simp only [thenQ, blockQ, reduceIte, Nat.reduceEqDiff]) | refine wSeq ?_ | refine wBlock ?_)
        all_goals try (exfalso; (try simp only [bbs] at *); first | omega | exact absurd trivial (by assumption))
        all_goals exact gives_pair hacc hrd.1.symm
  · refine ⟨0, [], z, 0, by omega, rfl, rfl, by omega, RAcc.nil, Ru.zero w, ?_⟩
    rw [hw]; rfl
theorem c_iunhex (z : ByteArray) (hz : z.size ≤ 1048576) : ∀ H, call Tryz.prog cfg0 0 43 [.v (.string z)] H = some (unRes z.data.toList, H) :=
  call_fz Tryz.func43 rfl ok_iunhex rfl (by simp only [fz_cons, fz_nil, go_sem, and_self]) (pq_iunhex z hz).1
theorem o_iunhex (z : ByteArray) (hz : z.size ≤ 1048576) : ∀ H, call Tryz.prog cfg0 1 43 [.v (.string z)] H = mat depthD (unRes z.data.toList) H := fun H =>
  call_ofO Tryz.func43 rfl ok_iunhex rfl (mapM_self fun x hx => ((show ∀ x ∈ ([.v (.string z)] : List AV), Fz depthD x by simp only [fz_cons, fz_nil, go_sem, and_self]) x hx).1 H) (pq_iunhex z hz).2

theorem fz_ib (c : Int) (l : List Int) : Fz depthD (.agg [.v (.int .i64 c), bytesL l]) := Fz.agg (n := 11) (by
  intro x hx
  simp at hx
  rcases hx with rfl | rfl
  · exact Fz.int _ _ _
  · exact bytesL_fz 9 l)
/-- What ReadHex gives: its code, and its bytes. -/
def rxC (w : List UInt8) : Int := if 1600 < w.length then 2 else match hexRd w with | some _ => 0 | none => 5
def rxB (w : List UInt8) : List Int := if 1600 < w.length then [] else match hexRd w with | some l => l | none => []
theorem gives_res {H : Hp} {x : AV} {c : Int} {l : List Int} (h1 : deep H 11 x = some (bytesL l)) (h2 : clean H 11 x = true) (h3 : ∃ fp, fpt H 11 x = some fp ∧ fp.Nodup) : GivesO (.agg [.v (.int .i64 c), bytesL l]) (.agg [.v (.int .i64 c), x]) H := by
  refine ⟨⟨?_, ?_⟩, own_agg2 h3⟩
  · show ([AV.v (.int .i64 c), x].mapM (deep H 11)).map AV.agg = _
    rw [mapM_c (show deep H 11 (.v (.int .i64 c)) = some (.v (.int .i64 c)) from rfl) (mapM_c h1 mapM_n)]; rfl
  · show [AV.v (.int .i64 c), x].all (clean H 11) = true
    simp only [List.all_cons, List.all_nil, Bool.and_true, h2]
    rfl
theorem gives_nil' {H : Hp} {c : Int} {l : List Int} (hl : l = []) : GivesO (.agg [.v (.int .i64 c), bytesL l]) (.agg [.v (.int .i64 c), .lst false []]) H := by
  subst hl; exact gives_res rfl rfl ⟨[], rfl, List.nodup_nil⟩
theorem gives_sl {H : Hp} {c : Int} {l : List Int} {b : Nat} (hb : H.h b = some (l.map cell)) : GivesO (.agg [.v (.int .i64 c), bytesL l]) (.agg [.v (.int .i64 c), .sl b 1 0 l.length]) H := by
  refine gives_res ?_ ?_ ?_
  · have := deep_racc1 (d := 10) (x := .sl b 1 0 l.length) (H := ⟨H.h, b + 1⟩) (f := cell) (n := l.length) (l := l) ⟨by simp, .inr ⟨b, by simp, rfl, hb⟩⟩ rfl (fun q => Fz.int _ _ _)
    exact this
  · exact clean_racc1 (d := 10) (x := .sl b 1 0 l.length) (H := ⟨H.h, b + 1⟩) (f := cell) (n := l.length) (l := l) ⟨by simp, .inr ⟨b, by simp, rfl, hb⟩⟩ (fun q => rfl)
  · obtain ⟨fp, h1, h2, -⟩ := fpt_flat (d := 10) hb (sz := 1) (o := 0) (n := l.length) (by simp [cell, fpt_int])
    exact ⟨fp, h1, h2⟩
theorem mat_pair (l : List Int) (b : Bool) (hne : l ≠ []) (H : Hp) : mat depthD (.tup [bytesL l, .v (.bool b)]) H = some (.tup [.sl H.g 1 0 l.length, .v (.bool b)], H.new (l.map cell)) := by
  show mat 12 _ H = _
  rw [mat_tup]
  simp only [matL]
  rw [mat_bytes 9 l hne]
  simp only [Option.bind_some, mat_v, Option.map_some]
theorem mat_pair0 (b : Bool) (H : Hp) : mat depthD (.tup [bytesL [], .v (.bool b)]) H = some (.tup [.lst false [], .v (.bool b)], H) := rfl
theorem rx_big {w : List UInt8} (h : 1600 < w.length) : rxC w = 2 ∧ rxB w = [] := by unfold rxC rxB; rw [if_pos h, if_pos h]; exact ⟨rfl, rfl⟩
theorem rx_some {w : List UInt8} {l : List Int} (h : ¬ 1600 < w.length) (hr : hexRd w = some l) : rxC w = 0 ∧ rxB w = l := by unfold rxC rxB; rw [if_neg h, if_neg h, hr]; exact ⟨rfl, rfl⟩
theorem rx_none {w : List UInt8} (h : ¬ 1600 < w.length) (hr : hexRd w = none) : rxC w = 5 ∧ rxB w = [] := by unfold rxC rxB; rw [if_neg h, if_neg h, hr]; exact ⟨rfl, rfl⟩
theorem ok_sReadHex : fnOk Tryz.prog cfg0 22 Tryz.f22 = true := by kernel_rfl
theorem p_sReadHex (z : ByteArray) (hz : z.size ≤ 1048576) : ∃ cl, pure Tryz.prog cfg0 22 Tryz.f22 [.v (.string z)] = some (.agg [.v (.int .i64 (rxC z.data.toList)), bytesL (rxB z.data.toList)], cl) := by
  have key : ∃ v cl, v = (.agg [.v (.int .i64 (rxC z.data.toList)), bytesL (rxB z.data.toList)] : AV) ∧ pure Tryz.prog cfg0 22 Tryz.f22 [.v (.string z)] = some (v, cl) := by
    refine pure_ex (rs := [.cell 2 40]) rfl rfl ?_
    have hp0 : ∀ b, cfg0.pol 22 b = 0 := fun b => rfl
    have hsz := size_toList z
    have hcl := c_sl14Read z hz
    generalize hw : z.data.toList = w at hsz hcl ⊢
    by_cases hbig : 1600 < w.length
    · have hb : 1600 < (z.size : Int) := by omega
      obtain ⟨e1, e2⟩ := rx_big hbig
      rw [e1, e2]
      repeat' (first | ((first | refine wSeqr ?_ | refine wIf ?_ | refine wReg ?_ | (refine wRet ?_; (try simp only [thenQ, blockQ]); refine ends_by ?_)); intro xx hx; have hc := trivial; (repeat' (simp only [hc, Nat.reduceBEq, go_sem, Nat.reduceAdd, Nat.reduceMul, Nat.reduceSub, Nat.reduceEqDiff, Nat.reduceLT, Nat.reduceLeDiff, Int.reduceEq, Int.reduceLT, Int.reduceLE, reduceIte, aresults, aresult, hp0, hb] at hx; (try (rw [guardL_if] at hx; split at hx <;> rename_i hc)))); all_goals (subst hx; first | (refine ⟨_, rfl, fun ht => ?_, fun ht => ?_⟩ <;> (try simp only [bbs] at ht)) | (refine ⟨_, rfl, ?_⟩; (try simp only [tupOf])))) | refine wSkip ?_ | (refine wExit ?_; simp only [thenQ, blockQ, reduceIte, Nat.reduceEqDiff]) | refine wSeq ?_ | refine wBlock ?_)
      all_goals exact ⟨_, _, rfl, rfl, rfl⟩
    have hb : ¬ 1600 < (z.size : Int) := by omega
    cases hr : hexRd w with
    | some l =>
      obtain ⟨e1, e2⟩ := rx_some hbig hr
      have e3 : rdRes w = .tup [bytesL l, .v (.bool true)] := by unfold rdRes; rw [hr]
      rw [e1, e2]
      rw [e3] at hcl
      repeat' (first | ((first | refine wSeqr ?_ | refine wIf ?_ | refine wReg ?_ | (refine wRet ?_; (try simp only [thenQ, blockQ]); refine ends_by ?_)); intro xx hx; have hc := trivial; (repeat' (simp only [hc, Nat.reduceBEq, go_sem, Nat.reduceAdd, Nat.reduceMul, Nat.reduceSub, Nat.reduceEqDiff, Nat.reduceLT, Nat.reduceLeDiff, Int.reduceEq, Int.reduceLT, Int.reduceLE, reduceIte, aresults, aresult, hp0, hb, hcl] at hx; (try (rw [guardL_if] at hx; split at hx <;> rename_i hc)))); all_goals (subst hx; first | (refine ⟨_, rfl, fun ht => ?_, fun ht => ?_⟩ <;> (try simp only [bbs] at ht)) | (refine ⟨_, rfl, ?_⟩; (try simp only [tupOf])))) | refine wSkip ?_ | (refine wExit ?_; simp only [thenQ, blockQ, reduceIte, Nat.reduceEqDiff]) | refine wSeq ?_ | refine wBlock ?_)
      all_goals try (exfalso; (try simp only [bbs] at *); first | omega | exact absurd trivial (by assumption))
      all_goals exact ⟨_, _, rfl, (fz_ib 0 l).1 _, rfl⟩
    | none =>
      obtain ⟨e1, e2⟩ := rx_none hbig hr
      have e3 : rdRes w = .tup [.lst false [], .v (.bool false)] := by unfold rdRes; rw [hr]
      rw [e1, e2]
      rw [e3] at hcl
      repeat' (first | ((first | refine wSeqr ?_ | refine wIf ?_ | refine wReg ?_ | (refine wRet ?_; (try simp only [thenQ, blockQ]); refine ends_by ?_)); intro xx hx; have hc := trivial; (repeat' (simp only [hc, Nat.reduceBEq, go_sem, Nat.reduceAdd, Nat.reduceMul, Nat.reduceSub, Nat.reduceEqDiff, Nat.reduceLT, Nat.reduceLeDiff, Int.reduceEq, Int.reduceLT, Int.reduceLE, reduceIte, aresults, aresult, hp0, hb, hcl] at hx; (try (rw [guardL_if] at hx; split at hx <;> rename_i hc)))); all_goals (subst hx; first | (refine ⟨_, rfl, fun ht => ?_, fun ht => ?_⟩ <;> (try simp only [bbs] at ht)) | (refine ⟨_, rfl, ?_⟩; (try simp only [tupOf])))) | refine wSkip ?_ | (refine wExit ?_; simp only [thenQ, blockQ, reduceIte, Nat.reduceEqDiff]) | refine wSeq ?_ | refine wBlock ?_)
      all_goals try (exfalso; (try simp only [bbs] at *); first | omega | exact absurd trivial (by assumption))
      all_goals exact ⟨_, _, rfl, rfl, rfl⟩
  obtain ⟨v, cl, rfl, hp⟩ := key
  exact ⟨cl, hp⟩
theorem c_sReadHex (z : ByteArray) (hz : z.size ≤ 1048576) : ∀ H, call Tryz.prog cfg0 0 22 [.v (.string z)] H = some (.agg [.v (.int .i64 (rxC z.data.toList)), bytesL (rxB z.data.toList)], H) := fun H => by
  obtain ⟨cl, hp⟩ := p_sReadHex z hz
  exact call_fz Tryz.func22 rfl ok_sReadHex rfl (by simp only [fz_cons, fz_nil, go_sem, and_self]) hp H

theorem rd_of_un {w : List UInt8} {l : List Int} (h : hexUn w = some (l, true)) : hexRd w = some l := by rw [hexUn_rd w.length w (Nat.le_refl _), h]
theorem rd_of_un0 {w : List UInt8} {l : List Int} (h : hexUn w = some (l, false)) : hexRd w = none := by rw [hexUn_rd w.length w (Nat.le_refl _), h]
theorem rd_of_no {w : List UInt8} (h : hexUn w = none) : hexRd w = none := by rw [hexUn_rd w.length w (Nat.le_refl _), h]
theorem ok_iReadHex : fnOk Tryz.prog cfg0 14 Tryz.f14 = true := by kernel_rfl
theorem pq_iReadHex (z : ByteArray) (hz : z.size ≤ 1048576) : pure Tryz.prog cfg0 14 Tryz.f14 [.v (.string z)] = some (.agg [.v (.int .i64 (rxC z.data.toList)), bytesL (rxB z.data.toList)], true) ∧ owned Tryz.prog cfg0 14 Tryz.f14 [.v (.string z)] = some (.agg [.v (.int .i64 (rxC z.data.toList)), bytesL (rxB z.data.toList)]) := by
  refine both_wp (rs := [.cell 2 40]) rfl rfl ?_
  have hp0 : ∀ b, cfg0.pol 14 b = (if b = 11 then 1 else 0) := fun b => rfl
  have hsz := size_toList z
  have hcl := o_iunhex z hz
  generalize hw : z.data.toList = w at hsz hcl ⊢
  by_cases hbig : 1600 < w.length
  · have hb : 1600 < (z.size : Int) := by omega
    obtain ⟨e1, e2⟩ := rx_big hbig
    rw [e1, e2]
    repeat' (first | ((first | refine wSeqr ?_ | refine wIf ?_ | refine wReg ?_ | (refine wRet ?_; (try simp only [thenQ, blockQ]); refine ends_by ?_)); intro xx hx; have hc := trivial; (repeat' (simp only [hc, Nat.reduceBEq, go_sem, Nat.reduceAdd, Nat.reduceMul, Nat.reduceSub, Nat.reduceEqDiff, Nat.reduceLT, Nat.reduceLeDiff, Int.reduceEq, Int.reduceLT, Int.reduceLE, reduceIte, aresults, aresult, hp0, hb, c_inoBytes, Option.getD_some] at hx; (try (rw [guardL_if] at hx; split at hx <;> rename_i hc)))); all_goals (subst hx; first | (refine ⟨_, rfl, fun ht => ?_, fun ht => ?_⟩ <;> (try simp only [bbs] at ht)) | (refine ⟨_, rfl, ?_⟩; (try simp only [tupOf])))) | refine wSkip ?_ | (refine wExit ?_; simp only [thenQ, blockQ, reduceIte, Nat.reduceEqDiff]) | refine wSeq ?_ | refine wBlock ?_)
    all_goals exact gives_nil' rfl
  have hb : ¬ 1600 < (z.size : Int) := by omega
  cases hu : hexUn w with
  | none =>
    obtain ⟨e1, e2⟩ := rx_none hbig (rd_of_no hu)
    have e3 : unRes w = .tup [bytesL [], .v (.bool false)] := by unfold unRes; rw [hu]; rfl
    rw [e1, e2]
    rw [e3] at hcl
    repeat' (first | ((first | refine wSeqr ?_ | refine wIf ?_ | refine wReg ?_ | (refine wRet ?_; (try simp only [thenQ, blockQ]); refine ends_by ?_)); intro xx hx; have hc := trivial; (repeat' (simp only [hc, Nat.reduceBEq, go_sem, Nat.reduceAdd, Nat.reduceMul, Nat.reduceSub, Nat.reduceEqDiff, Nat.reduceLT, Nat.reduceLeDiff, Int.reduceEq, Int.reduceLT, Int.reduceLE, reduceIte, aresults, aresult, hp0, hb, hcl, c_inoBytes, Option.getD_some, mat_pair0] at hx; (try (rw [guardL_if] at hx; split at hx <;> rename_i hc)))); all_goals (subst hx; first | (refine ⟨_, rfl, fun ht => ?_, fun ht => ?_⟩ <;> (try simp only [bbs] at ht)) | (refine ⟨_, rfl, ?_⟩; (try simp only [tupOf])))) | refine wSkip ?_ | (refine wExit ?_; simp only [thenQ, blockQ, reduceIte, Nat.reduceEqDiff]) | refine wSeq ?_ | refine wBlock ?_)
    all_goals try (exfalso; (try simp only [bbs] at *); first | omega | exact absurd trivial (by assumption))
    all_goals exact gives_nil' rfl
  | some p =>
    obtain ⟨l, f⟩ := p
    have e3 : unRes w = .tup [bytesL l, .v (.bool f)] := by unfold unRes; rw [hu]
    rw [e3] at hcl
    cases f with
    | false =>
      obtain ⟨e1, e2⟩ := rx_none hbig (rd_of_un0 hu)
      rw [e1, e2]
      by_cases hne : l = []
      · rw [hne] at hcl
        repeat' (first | ((first | refine wSeqr ?_ | refine wIf ?_ | refine wReg ?_ | (refine wRet ?_; (try simp only [thenQ, blockQ]); refine ends_by ?_)); intro xx hx; have hc := trivial; (repeat' (simp only [hc, Nat.reduceBEq, go_sem, Nat.reduceAdd, Nat.reduceMul, Nat.reduceSub, Nat.reduceEqDiff, Nat.reduceLT, Nat.reduceLeDiff, Int.reduceEq, Int.reduceLT, Int.reduceLE, reduceIte, aresults, aresult, hp0, hb, hcl, c_inoBytes, Option.getD_some, mat_pair0] at hx; (try (rw [guardL_if] at hx; split at hx <;> rename_i hc)))); all_goals (subst hx; first | (refine ⟨_, rfl, fun ht => ?_, fun ht => ?_⟩ <;> (try simp only [bbs] at ht)) | (refine ⟨_, rfl, ?_⟩; (try simp only [tupOf])))) | refine wSkip ?_ | (refine wExit ?_; simp only [thenQ, blockQ, reduceIte, Nat.reduceEqDiff]) | refine wSeq ?_ | refine wBlock ?_)
        all_goals try (exfalso; (try simp only [bbs] at *); first | omega | exact absurd trivial (by assumption))
        all_goals exact gives_nil' rfl
      · repeat' (first | ((first | refine wSeqr ?_ | refine wIf ?_ | refine wReg ?_ | (refine wRet ?_; (try simp only [thenQ, blockQ]); refine ends_by ?_)); intro xx hx; have hc := trivial; (repeat' (simp only [hc, Nat.reduceBEq, go_sem, Nat.reduceAdd, Nat.reduceMul, Nat.reduceSub, Nat.reduceEqDiff, Nat.reduceLT, Nat.reduceLeDiff, Int.reduceEq, Int.reduceLT, Int.reduceLE, reduceIte, aresults, aresult, hp0, hb, hcl, c_inoBytes, Option.getD_some, mat_pair l false hne] at hx; (try (rw [guardL_if] at hx; split at hx <;> rename_i hc)))); all_goals (subst hx; first | (refine ⟨_, rfl, fun ht => ?_, fun ht => ?_⟩ <;> (try simp only [bbs] at ht)) | (refine ⟨_, rfl, ?_⟩; (try simp only [tupOf])))) | refine wSkip ?_ | (refine wExit ?_; simp only [thenQ, blockQ, reduceIte, Nat.reduceEqDiff]) | refine wSeq ?_ | refine wBlock ?_)
        all_goals try (exfalso; (try simp only [bbs] at *); first | omega | exact absurd trivial (by assumption))
        all_goals exact gives_nil' rfl
    | true =>
      obtain ⟨e1, e2⟩ := rx_some hbig (rd_of_un hu)
      rw [e1, e2]
      by_cases hne : l = []
      · rw [hne] at hcl ⊢
        repeat' (first | ((first | refine wSeqr ?_ | refine wIf ?_ | refine wReg ?_ | (refine wRet ?_; (try simp only [thenQ, blockQ]); refine ends_by ?_)); intro xx hx; have hc := trivial; (repeat' (simp only [hc, Nat.reduceBEq, go_sem, Nat.reduceAdd, Nat.reduceMul, Nat.reduceSub, Nat.reduceEqDiff, Nat.reduceLT, Nat.reduceLeDiff, Int.reduceEq, Int.reduceLT, Int.reduceLE, reduceIte, aresults, aresult, hp0, hb, hcl, c_inoBytes, Option.getD_some, mat_pair0] at hx; (try (rw [guardL_if] at hx; split at hx <;> rename_i hc)))); all_goals (subst hx; first | (refine ⟨_, rfl, fun ht => ?_, fun ht => ?_⟩ <;> (try simp only [bbs] at ht)) | (refine ⟨_, rfl, ?_⟩; (try simp only [tupOf])))) | refine wSkip ?_ | (refine wExit ?_; simp only [thenQ, blockQ, reduceIte, Nat.reduceEqDiff]) | refine wSeq ?_ | refine wBlock ?_)
        all_goals try (exfalso; (try simp only [bbs] at *); first | omega | exact absurd trivial (by assumption))
        all_goals exact gives_nil' rfl
      · repeat' (first | ((first | refine wSeqr ?_ | refine wIf ?_ | refine wReg ?_ | (refine wRet ?_; (try simp only [thenQ, blockQ]); refine ends_by ?_)); intro xx hx; have hc := trivial; (repeat' (simp only [hc, Nat.reduceBEq, go_sem, Nat.reduceAdd, Nat.reduceMul, Nat.reduceSub, Nat.reduceEqDiff, Nat.reduceLT, Nat.reduceLeDiff, Int.reduceEq, Int.reduceLT, Int.reduceLE, reduceIte, aresults, aresult, hp0, hb, hcl, c_inoBytes, Option.getD_some, mat_pair l true hne] at hx; (try (rw [guardL_if] at hx; split at hx <;> rename_i hc)))); all_goals (subst hx; first | (refine ⟨_, rfl, fun ht => ?_, fun ht => ?_⟩ <;> (try simp only [bbs] at ht)) | (refine ⟨_, rfl, ?_⟩; (try simp only [tupOf])))) | refine wSkip ?_ | (refine wExit ?_; simp only [thenQ, blockQ, reduceIte, Nat.reduceEqDiff]) | refine wSeq ?_ | refine wBlock ?_)
        all_goals try (exfalso; (try simp only [bbs] at *); first | omega | exact absurd trivial (by assumption))
        all_goals exact gives_sl rfl
theorem c_iReadHex (z : ByteArray) (hz : z.size ≤ 1048576) : ∀ H, call Tryz.prog cfg0 0 14 [.v (.string z)] H = some (.agg [.v (.int .i64 (rxC z.data.toList)), bytesL (rxB z.data.toList)], H) :=
  call_fz Tryz.func14 rfl ok_iReadHex rfl (by simp only [fz_cons, fz_nil, go_sem, and_self]) (pq_iReadHex z hz).1
end
end Go.Proofs.YtakbbccdnkigpaaGreatDoor
