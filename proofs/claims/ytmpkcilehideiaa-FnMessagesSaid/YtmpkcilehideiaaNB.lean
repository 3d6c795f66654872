/- What is told of messages that were read; states told anew. -/
import Derived.Test.YtmpkcilehideiaaN6
namespace Go.Proofs.Ytmpkcilehideiaa
open Go Go.RowKit Go.Proofs.Ytmpkcilehideiaa.Eng
set_option linter.unusedSimpArgs false
set_option linter.unusedVariables false
set_option maxRecDepth 100000
noncomputable section
theorem wSt {P : Program} {cfg : Cfg} {fid : Nat} {c : Code} {e : Env} {H : Hp} {Q : AX → St → Prop} (R : Env → Hp → Prop) (hR : R e H) (h : ∀ e2 H2, R e2 H2 → Wp P cfg fid c (e2, H2) Q) : Wp P cfg fid c (e, H) Q := h e H hR
theorem mat_oneQ {n : Nat} {t : AV} {H : Hp} {q : Option (AV × Hp)} (hq : mat depthD t H = q) (hg : MatG n t) (hn : n ≤ 12) : ∃ z H', q = some (z, H') ∧ Ext H H' ∧ Laid H' H.g H'.g [t] [z] := by
  obtain ⟨z, H', h1, h2, h3⟩ := mat_one (d := depthD) hn hg H
  exact ⟨z, H', hq.symm.trans h1, h2, h3⟩
theorem mat_rowQ {n : Nat} {ts : List AV} {H : Hp} {q : Option (AV × Hp)} (hq : mat depthD (.agg ts) H = q) (hg : ∀ t ∈ ts, MatG n t) (hn : n ≤ 11) : ∃ zs H', q = some (.agg zs, H') ∧ Ext H H' ∧ Laid H' H.g H'.g ts zs := by
  obtain ⟨zs, H', h1, h2, h3⟩ := mat_row hg hn H
  exact ⟨zs, H', hq.symm.trans h1, h2, h3⟩
theorem deep_laid {n lo hi : Nat} {H : Hp} {ts zs : List AV} (hL : Laid H lo hi ts zs) (hg : ∀ t ∈ ts, MatG n t) (hn : n ≤ 11) : deep H depthD (.agg zs) = some (.agg ts) := (hL.givesO hn hg).1.1
theorem deep_one {n lo hi : Nat} {H : Hp} {t z : AV} (hL : Laid H lo hi [t] [z]) (hg : MatG n t) (hn : n ≤ 12) : deep H depthD z = some t := by
  have h := (hL.deep n depthD (by simpa using hg) hn).1
  simp only [List.mapM_cons, List.mapM_nil, Option.bind_eq_bind, Option.bind_eq_some_iff, Option.pure_def, Option.some.injEq] at h
  obtain ⟨y, h1, _, rfl, h2⟩ := h
  rw [h1]
  simp at h2
  rw [h2]
theorem decM_ok {l : List Int} (hb : Eng.Bytes l) (hl : l.length ≤ 1000) : (decM l).ok 1048576 ∧ (decM l).Key.Bytes.length ≤ 1000 := by
  cases l with
  | nil => exact ⟨by simp [decM, MessageM.ok, ClaimM.ok, KeyM.ok, Eng.Bytes], by simp [decM]⟩
  | cons k r =>
    have hk := hb k (by simp)
    have h1 := numA_ok hb 1 4 (by omega)
    have h2 := numA_ok hb 5 1 (by omega)
    have h3 := numA_ok hb 1 1 (by omega)
    have h4 := numA_ok hb 2 4 (by omega)
    have h5 := numA_ok hb 6 1 (by omega)
    have h6 := numA_ok hb 7 4 (by omega)
    have h7 := numA_ok hb 2 1 (by omega)
    have h8 : Eng.Bytes ((k :: r).drop 3) := byt_drop hb 3
    have h9 : Eng.Bytes [] := fun z hz => by simp at hz
    show (decK (k :: r) k).ok 1048576 ∧ (decK (k :: r) k).Key.Bytes.length ≤ 1000
    unfold decK
    (repeat' split) <;> simp only [MessageM.ok, ClaimM.ok, KeyM.ok, List.length_nil, List.length_drop, h8, h9, true_and] <;> omega
theorem stepD_ok {r : List Int} (hb : Eng.Bytes r) (hl : r.length ≤ 1000) {m : MessageM} {t : List Int} (h : stepD r = some (m, t)) : (m.ok 1048576 ∧ m.Key.Bytes.length ≤ 1000) ∧ Eng.Bytes t ∧ t.length ≤ 1000 := by
  cases r with
  | nil => simp [stepD] at h
  | cons a t' =>
    simp only [stepD] at h
    split at h
    · simp at h
    · split at h
      · simp only [Option.some.injEq, Prod.mk.injEq] at h
        obtain ⟨rfl, rfl⟩ := h
        have ht : Eng.Bytes t' := fun z hz => hb z (by simp [hz])
        simp only [List.length_cons] at hl
        exact ⟨decM_ok (byt_take ht _) (by rw [List.length_take]; omega), byt_drop ht _, by rw [List.length_drop]; omega⟩
      · simp at h
theorem decN_ok {r : List Int} (hb : Eng.Bytes r) (hl : r.length ≤ 1000) : ∀ (j : Nat) (p : List MessageM × List Int), decN j r = some p → p.1.length = j ∧ (∀ x ∈ p.1, x.ok 1048576 ∧ x.Key.Bytes.length ≤ 1000) ∧ Eng.Bytes p.2 ∧ p.2.length ≤ 1000 := by
  intro j
  induction j with
  | zero => intro p h; simp [decN] at h; subst h; exact ⟨rfl, by simp, hb, hl⟩
  | succ j ih =>
    intro p h
    obtain ⟨p', h1, h2⟩ := Option.bind_eq_some_iff.1 h
    obtain ⟨⟨m, t⟩, h3, rfl⟩ := Option.map_eq_some_iff.1 h2
    obtain ⟨i1, i2, i3, i4⟩ := ih p' h1
    obtain ⟨s1, s2, s3⟩ := stepD_ok i3 i4 h3
    refine ⟨by simp [i1], fun x hx => ?_, s2, s3⟩
    rcases List.mem_append.1 hx with hx | hx
    · exact i2 x hx
    · simp only [List.mem_singleton] at hx; subst hx; exact s1
theorem dmL_ok {l : List Int} (hb : Eng.Bytes l) : (dmL l).length ≤ 1000 ∧ ∀ x ∈ dmL l, x.ok 1048576 ∧ x.Key.Bytes.length ≤ 1000 := by
  unfold dmL
  split
  · exact ⟨by simp, by simp⟩
  split
  rotate_left
  · exact ⟨by simp, by simp⟩
  unfold allM
  cases l with
  | nil => exact ⟨by simp, by simp⟩
  | cons c r =>
    simp only
    split
    · exact ⟨by simp, by simp⟩
    rename_i h300 _ h12
    simp only [List.length_cons] at h300
    split
    · exact ⟨by simp, by simp⟩
    · rename_i ms rest hd
      obtain ⟨i1, i2, -, -⟩ := decN_ok (r := r) (fun z hz => hb z (by simp [hz])) (by omega) _ _ hd
      have := hb c (by simp)
      exact ⟨by simp only at i1; show ms.length ≤ 1000; omega, i2⟩
end
end Go.Proofs.Ytmpkcilehideiaa
