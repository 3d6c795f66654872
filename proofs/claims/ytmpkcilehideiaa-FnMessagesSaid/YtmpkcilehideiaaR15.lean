/- Plain laws: messages are read back from their bytes. -/
import Derived.Test.YtmpkcilehideiaaR10
namespace Go.Proofs.Ytmpkcilehideiaa
open Go Go.RowKit Go.Proofs.Ytmpkcilehideiaa.Eng
set_option linter.unusedSimpArgs false
set_option linter.unusedVariables false
set_option maxRecDepth 100000
set_option maxHeartbeats 4000000
noncomputable section
theorem rd_word {n : Int} (h : 0 ≤ n ∧ n ≤ 4294967295) : rdN (wordL n 4) = n := by
  simp only [wordL_succ, wordL_zero, rdN, List.foldl, Int.reducePow]; omega
theorem numW4 {l : List Int} {p : Nat} {n : Int} (h : (l.drop p).take 4 = wordL n 4) (hn : 0 ≤ n ∧ n ≤ 4294967295) : numA l p 4 = n := by
  have hl : p + 4 ≤ l.length := by have := congrArg List.length h; rw [wordL_len] at this; simp at this; omega
  unfold numA readWord
  rw [if_pos hl, h, rd_word hn, if_pos (by omega)]
theorem numW1 {l : List Int} {p : Nat} {n : Int} (h : (l.drop p).take 1 = wordL n 1) (hn : 0 ≤ n ∧ n ≤ 255) : numA l p 1 = n := num1 (by rw [h, wordL_one hn]) hn
theorem word4E (n : Int) : ∃ a b c d, wordL n 4 = [a, b, c, d] := list4 (wordL_len n 4)
/-- A message without a fault, by its kind. -/
theorem fault_by {k : MessageM} (h : msgFault k = 0) :
    ((k.Kind = 1 ∨ k.Kind = 3) ∧ k = ⟨k.Kind, k.Seq, k.Node, ⟨0, 0, 0, 0⟩, 0, ⟨0, []⟩⟩ ∧ (0 ≤ k.Seq ∧ k.Seq ≤ 1000000) ∧ (0 ≤ k.Node ∧ k.Node ≤ 3)) ∨
    (k.Kind = 2 ∧ k = ⟨2, k.Seq, 0, ⟨0, 0, 0, 0⟩, 0, ⟨0, []⟩⟩ ∧ (0 ≤ k.Seq ∧ k.Seq ≤ 1000000)) ∨
    (k.Kind = 4 ∧ k = ⟨4, 0, 0, k.Claim, 0, ⟨0, []⟩⟩ ∧ (0 ≤ k.Claim.Node ∧ k.Claim.Node ≤ 3) ∧ (0 ≤ k.Claim.Inc ∧ k.Claim.Inc ≤ 1000000) ∧ (0 ≤ k.Claim.Status ∧ k.Claim.Status ≤ 2) ∧ (0 ≤ k.Claim.Meta ∧ k.Claim.Meta ≤ 9999999)) ∨
    (k.Kind = 5 ∧ k = ⟨5, 0, 0, ⟨0, 0, 0, 0⟩, k.Op, k.Key⟩ ∧ (1 ≤ k.Op ∧ k.Op ≤ 3) ∧ (1 ≤ k.Key.Id ∧ k.Key.Id ≤ 255) ∧ k.Key.Bytes.length ≤ 16) := by
  have hf : msgForm k = true := by
    cases hm : msgForm k with
    | true => rfl
    | false => unfold msgFault at h; rw [if_pos hm] at h; omega
  unfold msgFault at h
  rw [if_neg (by rw [hf]; decide)] at h
  unfold msgForm at hf
  obtain ⟨kd, sq, nd, c, op, ⟨id, bs⟩⟩ := k
  simp only at h hf ⊢
  by_cases k13 : kd = 1 ∨ kd = 3
  · left
    rw [if_pos k13] at hf
    rw [if_neg (by omega), if_pos (by omega)] at h
    simp only [need7, Bool.true_or, Bool.true_and, Bool.false_or, Bool.and_eq_true, decide_eq_true_eq] at hf
    obtain ⟨f1, ⟨f2, f3⟩, f4⟩ := hf
    split at h
    · rename_i hr
      simp only [inB_t] at hr
      have f5 : bs = [] := List.length_eq_zero_iff.1 f4
      subst f1 f2 f3 f5
      exact ⟨k13, rfl, hr⟩
    · omega
  rw [if_neg k13] at hf
  by_cases k2 : kd = 2
  · right; left
    rw [if_pos k2] at hf
    rw [if_neg (by omega), if_pos (by omega)] at h
    simp only [need7, Bool.true_or, Bool.true_and, Bool.false_or, Bool.and_eq_true, decide_eq_true_eq] at hf
    obtain ⟨⟨f0, f1⟩, ⟨f2, f3⟩, f4⟩ := hf
    split at h
    · rename_i hr
      simp only [inB_t] at hr
      have f5 : bs = [] := List.length_eq_zero_iff.1 f4
      subst f0 f1 f2 f3 f5 k2
      exact ⟨rfl, rfl, hr.1⟩
    · omega
  rw [if_neg k2] at hf
  by_cases k4 : kd = 4
  · right; right; left
    rw [if_pos k4] at hf h
    simp only [need7, Bool.true_or, Bool.true_and, Bool.false_or, Bool.and_eq_true, Bool.or_true, Bool.and_true, decide_eq_true_eq] at hf
    obtain ⟨⟨f0, f1⟩, ⟨f2, f3⟩, f4⟩ := hf
    simp only [claimFault, claimOk, Bool.and_eq_true, inB_t] at h
    split at h
    · rename_i hr
      have f5 : bs = [] := List.length_eq_zero_iff.1 f4
      subst f0 f1 f2 f3 f5 k4
      exact ⟨rfl, rfl, hr.1.1.1, hr.1.1.2, hr.1.2, hr.2⟩
    · omega
  rw [if_neg k4] at hf h
  by_cases k5 : kd = 5
  · right; right; right
    rw [if_pos k5] at hf
    rw [if_neg (by omega)] at h
    simp only [need7, Bool.true_or, Bool.true_and, Bool.false_or, Bool.and_eq_true, Bool.or_true, Bool.and_true, decide_eq_true_eq] at hf
    obtain ⟨⟨f0, f1⟩, f2⟩ := hf
    by_cases hr : inB op 1 3 = false ∨ inB id 1 255 = false
    · rw [if_pos hr] at h; omega
    rw [if_neg hr] at h
    rw [not_or] at hr
    have r1 : inB op 1 3 = true := by simpa using hr.1
    have r2 : inB id 1 255 = true := by simpa using hr.2
    rw [inB_t] at r1 r2
    have hl : (bs.length : Int) ≤ 16 := by
      by_cases hop : op = 1
      · rw [if_pos hop] at h; split at h <;> omega
      · rw [if_neg hop] at h; split at h <;> omega
    subst f0 f1 f2 k5
    exact ⟨rfl, rfl, r1, r2, by omega⟩
  · rw [if_neg k5] at hf; simp at hf
theorem decM_msgB {k : MessageM} (h : msgFault k = 0) : decM (msgB k) = k := by
  rcases fault_by h with ⟨k13, e, h1, h2⟩ | ⟨k2, e, h1⟩ | ⟨k4, e, h1, h2, h3, h4⟩ | ⟨k5, e, h1, h2, h3⟩
  · obtain ⟨a, b, c, d, hw⟩ := word4E k.Seq
    have e1 : msgB k = [k.Kind] ++ [a, b, c, d] ++ wordL k.Node 1 := by
      unfold msgB msgP
      rw [if_pos k13, hw, show k.Kind % 256 = k.Kind by omega]; simp
    have n1 : numA (msgB k) 1 4 = k.Seq := numW4 (by rw [e1, hw]; simp) (by omega)
    have n2 : numA (msgB k) 5 1 = k.Node := numW1 (by rw [e1, wordL_one (by omega)]; simp) (by omega)
    have e2 : decM (msgB k) = decK (msgB k) k.Kind := by rw [e1]; rfl
    rw [e2]; unfold decK
    rw [if_pos k13, n1, n2]; exact e.symm
  · obtain ⟨a, b, c, d, hw⟩ := word4E k.Seq
    have e1 : msgB k = [2] ++ [a, b, c, d] := by
      unfold msgB msgP
      rw [if_neg (by omega), if_pos k2, hw, k2]; simp
    have n1 : numA (msgB k) 1 4 = k.Seq := numW4 (by rw [e1, hw]; simp) (by omega)
    have e2 : decM (msgB k) = decK (msgB k) 2 := by rw [e1]; rfl
    rw [e2]; unfold decK
    rw [if_neg (by omega), if_pos rfl, n1]; exact e.symm
  · obtain ⟨a, b, c, d, hw⟩ := word4E k.Claim.Inc
    obtain ⟨a', b', c', d', hw'⟩ := word4E k.Claim.Meta
    have e1 : msgB k = [4] ++ wordL k.Claim.Node 1 ++ [a, b, c, d] ++ wordL k.Claim.Status 1 ++ [a', b', c', d'] := by
      unfold msgB msgP
      rw [if_neg (by omega), if_neg (by omega), if_pos k4, hw, hw', k4]; simp
    rw [wordL_one (by omega), wordL_one (by omega)] at e1
    have n1 : numA (msgB k) 1 1 = k.Claim.Node := numW1 (by rw [e1, wordL_one (by omega)]; simp) (by omega)
    have n2 : numA (msgB k) 2 4 = k.Claim.Inc := numW4 (by rw [e1, hw]; simp) (by omega)
    have n3 : numA (msgB k) 6 1 = k.Claim.Status := numW1 (by rw [e1, wordL_one (by omega)]; simp) (by omega)
    have n4 : numA (msgB k) 7 4 = k.Claim.Meta := numW4 (by rw [e1, hw']; simp) (by omega)
    have e2 : decM (msgB k) = decK (msgB k) 4 := by rw [e1]; rfl
    rw [e2]; unfold decK
    rw [if_neg (by omega), if_neg (by omega), if_pos rfl, n1, n2, n3, n4]; exact e.symm
  · have e1 : msgB k = [5] ++ wordL k.Op 1 ++ wordL k.Key.Id 1 ++ k.Key.Bytes := by
      unfold msgB msgP
      rw [if_neg (by omega), if_neg (by omega), if_neg (by omega), k5]; simp
    rw [wordL_one (by omega), wordL_one (by omega)] at e1
    have n1 : numA (msgB k) 1 1 = k.Op := numW1 (by rw [e1, wordL_one (by omega)]; simp) (by omega)
    have n2 : numA (msgB k) 2 1 = k.Key.Id := numW1 (by rw [e1, wordL_one (by omega)]; simp) (by omega)
    have n3 : (msgB k).drop 3 = k.Key.Bytes := by rw [e1]; simp
    have e2 : decM (msgB k) = decK (msgB k) 5 := by rw [e1]; rfl
    rw [e2]; unfold decK
    rw [if_neg (by omega), if_neg (by omega), if_neg (by omega), if_pos rfl, n1, n2, n3]; exact e.symm
theorem decB_msgB {k : MessageM} (h : msgFault k = 0) : decB (msgB k) = true := by
  unfold decB
  rw [decM_msgB h, h]; simp
theorem msgB_lens {k : MessageM} (h : msgFault k = 0) : 1 ≤ (msgB k).length ∧ (msgB k).length ≤ 27 := by
  have h1 := (fault_nn h).2
  have h2 := msgB_len (k := k)
  have h3 : 0 < (msgB k).length := List.length_pos_iff.2 (msgB_ne k)
  omega
theorem rt_one {k : MessageM} (h : msgFault k = 0) : dm1L (msgB k) = [k] := by
  have h1 := msgB_lens h
  have h2 : dm1C (msgB k) = 0 := by unfold dm1C; rw [if_neg (by omega), if_pos (decB_msgB h)]
  unfold dm1L
  rw [if_pos h2, decM_msgB h]
theorem rt_back {l : List Int} (h : dm1C l = 0) : ∃ k, dm1L l = [k] ∧ msgFault k = 0 ∧ msgB k = l := by
  refine ⟨decM l, by unfold dm1L; rw [if_pos h], ?_⟩
  unfold dm1C at h
  split at h
  · omega
  split at h
  · rename_i hd
    unfold decB at hd
    simp only [Bool.and_eq_true, decide_eq_true_eq] at hd
    exact hd
  · omega
theorem stepD_lmsg {k : MessageM} (h : msgFault k = 0) (r : List Int) : stepD (lmsg k ++ r) = some (k, r) := by
  have h1 := msgB_lens h
  have e : lmsg k ++ r = ((msgB k).length : Int) :: (msgB k ++ r) := by
    unfold lmsg
    rw [show (((msgB k).length : Nat) : Int) % 256 = ((msgB k).length : Nat) by omega]; simp
  rw [e]
  simp only [stepD]
  have h2 : (msgB k ++ r).take (((msgB k).length : Nat) : Int).toNat = msgB k := by simp
  have h3 : (msgB k ++ r).drop (((msgB k).length : Nat) : Int).toNat = r := by simp
  rw [if_neg (by rw [List.length_append]; omega), h2, h3, if_pos (decB_msgB h), decM_msgB h]
theorem decN_all {xs : List MessageM} (h : ∀ m ∈ xs, msgFault m = 0) : ∀ j, j ≤ xs.length → decN j ((xs.map lmsg).flatten) = some (xs.take j, ((xs.drop j).map lmsg).flatten) := by
  intro j
  induction j with
  | zero => intro _; simp [decN]
  | succ j ih =>
    intro hj
    have hlt : j < xs.length := by omega
    have hd : xs.drop j = xs[j] :: xs.drop (j + 1) := List.drop_eq_getElem_cons hlt
    have h1 := decN_some (q := (xs[j], ((xs.drop (j + 1)).map lmsg).flatten)) (ih (by omega)) (by
      simp only [hd, List.map_cons, List.flatten_cons]
      exact stepD_lmsg (h _ (List.getElem_mem _)) _)
    rw [h1, List.take_succ_eq_append_getElem hlt]
theorem rt_all {xs : List MessageM} (h : emsC xs = 0) : dmL (emsL xs) = xs := by
  have hl : emsL xs = allB xs := by unfold emsL; rw [if_pos h]
  unfold emsC at h
  split at h
  · omega
  rename_i hlen
  split at h
  · rename_i hf
    have hf' := fstF_zero hf
    split at h
    · omega
    rename_i h300
    rw [hl]
    have e : allB xs = (xs.length : Int) :: (xs.map lmsg).flatten := by
      unfold allB allP
      rw [List.take_length, show ((xs.length : Nat) : Int) % 256 = (xs.length : Nat) by omega]; simp
    have hd := decN_all hf' xs.length (Nat.le_refl _)
    rw [List.take_length, List.drop_length] at hd
    have ha : allM (allB xs) = (xs, true) := by
      rw [e]
      exact (allM_some (by omega) (by rw [show ((xs.length : Nat) : Int).toNat = xs.length by omega]; exact hd)).trans (by simp)
    unfold dmL
    rw [if_neg h300, ha]; rfl
  · rename_i hf; exact absurd h hf
theorem stepD_back {r t : List Int} {m : MessageM} (h8 : Eng.Bytes r) (h : stepD r = some (m, t)) : msgFault m = 0 ∧ r = lmsg m ++ t := by
  cases r with
  | nil => simp [stepD] at h
  | cons e u =>
    have he := h8 e (by simp)
    simp only [stepD] at h
    split at h
    · simp at h
    rename_i hle
    split at h
    · rename_i hd
      simp only [Option.some.injEq, Prod.mk.injEq] at h
      obtain ⟨rfl, rfl⟩ := h
      unfold decB at hd
      simp only [Bool.and_eq_true, decide_eq_true_eq] at hd
      refine ⟨hd.1, ?_⟩
      unfold lmsg
      rw [hd.2, List.length_take, Nat.min_eq_left (by omega), show ((e.toNat : Nat) : Int) % 256 = e by omega]
      simp
    · simp at h
theorem decN_back {r : List Int} (h8 : Eng.Bytes r) : ∀ (j : Nat) (p : List MessageM × List Int), decN j r = some p → p.1.length = j ∧ (∀ m ∈ p.1, msgFault m = 0) ∧ r = (p.1.map lmsg).flatten ++ p.2 := by
  intro j
  induction j with
  | zero => intro p h; simp [decN] at h; subst h; exact ⟨rfl, by simp, by simp⟩
  | succ j ih =>
    intro p h
    obtain ⟨p', h1, h2⟩ := Option.bind_eq_some_iff.1 h
    obtain ⟨⟨m, t⟩, h3, rfl⟩ := Option.map_eq_some_iff.1 h2
    obtain ⟨i1, i2, i3⟩ := ih p' h1
    have h8' : Eng.Bytes p'.2 := fun z hz => h8 z (by rw [i3]; exact List.mem_append.2 (.inr hz))
    obtain ⟨s1, s2⟩ := stepD_back h8' h3
    refine ⟨by simp [i1], fun x hx => ?_, ?_⟩
    · rcases List.mem_append.1 hx with hx | hx
      · exact i2 x hx
      · simp only [List.mem_singleton] at hx; subst hx; exact s1
    · rw [s2] at i3; rw [i3]; simp
theorem rt_alls {l : List Int} (h8 : Eng.Bytes l) (h : dmC l = 0) : emsL (dmL l) = l ∧ emsC (dmL l) = 0 := by
  unfold dmC at h
  split at h
  · omega
  rename_i h300
  split at h
  rotate_left
  · omega
  rename_i ha
  have hL : dmL l = (allM l).1 := by unfold dmL; rw [if_neg h300, if_pos ha]
  cases l with
  | nil => simp [allM] at ha
  | cons c r =>
    have hc := h8 c (by simp)
    by_cases hc12 : 12 < c
    · simp [allM, hc12] at ha
    cases hd : decN c.toNat r with
    | none => rw [allM_none hc12 hd] at ha; simp at ha
    | some p =>
      obtain ⟨ms, rest⟩ := p
      rw [allM_some hc12 hd] at ha hL
      simp only [decide_eq_true_eq] at ha
      have hr : rest = [] := List.length_eq_zero_iff.1 ha
      subst hr
      obtain ⟨b1, b2, b3⟩ := decN_back (fun z hz => h8 z (by simp [hz])) _ _ hd
      simp only [List.append_nil] at b1 b2 b3
      have e : allB ms = c :: r := by
        unfold allB allP
        rw [List.take_length, ← b3, show ((ms.length : Nat) : Int) % 256 = c by omega]; rfl
      rw [hL]
      have hC : emsC ms = 0 := by
        unfold emsC
        rw [if_neg (by omega), if_pos (fstF_none b2), e, if_neg h300]
      exact ⟨by unfold emsL; rw [if_pos hC, e], hC⟩
end
end Go.Proofs.Ytmpkcilehideiaa
