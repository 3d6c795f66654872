/- The engine, part 14: whatever order a region draws, it comes to the same. -/
import Derived.Test.YtnejoidfbgklbaaGreatDoorE13
namespace Go.Proofs.YtnejoidfbgklbaaGreatDoor.Eng
open Go Go.RowKit
set_option linter.unusedSimpArgs false
set_option linter.unusedVariables false

section
variable {P : Program}

/-- The run in the order of the text, operation by operation. -/
structure Canon (P : Program) (pol : Nat → Nat) (cf : CallF) (ops : Array Oper) (E : Nat → Env) (Hs : Nat → Hp) (vs : Nat → AV) : Prop where
  step : ∀ k o, ops[k]? = some o → stepV P pol cf ops o (E k) (Hs k) = some (vs k, Hs (k + 1)) ∧ E (k + 1) = put (E k) o.dst (vs k)

theorem canon_of {pol : Nat → Nat} {cf : CallF} {ops : Array Oper} : ∀ (n k : Nat) (e : Env) (H : Hp) (e' : Env) (H' : Hp), ops.size - k = n → k ≤ ops.size → asteps P pol cf ops (ops.toList.drop k) e H = some (e', H') →
    ∃ (E : Nat → Env) (Hs : Nat → Hp) (vs : Nat → AV), E k = e ∧ Hs k = H ∧ E ops.size = e' ∧ Hs ops.size = H' ∧ ∀ j o, k ≤ j → ops[j]? = some o → stepV P pol cf ops o (E j) (Hs j) = some (vs j, Hs (j + 1)) ∧ E (j + 1) = put (E j) o.dst (vs j) := by
  intro n
  induction n with
  | zero =>
    intro k e H e' H' hk hle h
    have : k = ops.size := by omega
    subst this
    rw [List.drop_eq_nil_of_le (by simp)] at h
    simp only [asteps, Option.some.injEq, Prod.mk.injEq] at h
    obtain ⟨rfl, rfl⟩ := h
    refine ⟨fun _ => e, fun _ => H, fun _ => .any, rfl, rfl, rfl, rfl, fun j o hj ho => ?_⟩
    have := (Array.getElem?_eq_some_iff.1 ho).1
    omega
  | succ n ih =>
    intro k e H e' H' hk hle h
    have hlt : k < ops.toList.length := by simp; omega
    rw [List.drop_eq_getElem_cons hlt] at h
    obtain ⟨⟨e1, H1⟩, h1, h2⟩ := Option.bind_eq_some_iff.1 h
    have hi : ops[k]? = some ops.toList[k] := by rw [← toList_get]; simp
    rw [astep_eq] at h1
    obtain ⟨⟨v, H1'⟩, hv, heq⟩ := Option.map_eq_some_iff.1 h1
    simp only [Prod.mk.injEq] at heq; obtain ⟨rfl, rfl⟩ := heq
    obtain ⟨E, Hs, vs, g1, g2, g3, g4, g5⟩ := ih (k + 1) _ H1' e' H' (by omega) (by omega) h2
    refine ⟨fun j => if j = k then e else E j, fun j => if j = k then H else Hs j, fun j => if j = k then v else vs j, by simp, by simp, ?_, ?_, fun j o hj ho => ?_⟩
    · show (if ops.size = k then e else E ops.size) = e'
      rw [if_neg (by omega)]; exact g3
    · show (if ops.size = k then H else Hs ops.size) = H'
      rw [if_neg (by omega)]; exact g4
    · by_cases hjk : j = k
      · subst hjk
        rw [hi] at ho
        simp only [Option.some.injEq] at ho; subst ho
        simp only [if_true]
        rw [if_neg (by omega), if_neg (by omega), g1, g2]
        exact ⟨hv, rfl⟩
      · simp only [if_neg hjk]
        rw [if_neg (by omega), if_neg (by omega)]
        exact g5 j o (by omega) ho

/-- The environment when the operations of S have been taken. -/
def envS (ops : Array Oper) (e0 : Env) (vs : Nat → AV) (S : Nat → Bool) : Nat → Env
  | 0 => e0
  | k + 1 => if S k then put (envS ops e0 vs S k) ((ops[k]?).bind (·.dst)) (vs k) else envS ops e0 vs S k

theorem put_other {e : Env} {d : Option Nat} {x : AV} {t : Nat} (h : d ≠ some t) : put e d x t = e t := by
  cases d with
  | none => rfl
  | some t' => simp only [put, upd]; rw [if_neg (by intro e; subst e; exact h rfl)]
theorem put_same {e : Env} {x : AV} {t : Nat} : put e (some t) x t = x := by simp [put, upd]

/-- Of a slot whose writers in S are those below i. -/
theorem envS_slot {ops : Array Oper} {e0 : Env} {vs : Nat → AV} {S : Nat → Bool} {t i : Nat} (h : ∀ j, j < ops.size → ((ops[j]?).bind (·.dst)) = some t → (S j = true ↔ j < i)) :
    ∀ n, n ≤ ops.size → envS ops e0 vs S n t = envS ops e0 vs (fun _ => true) (min n i) t := by
  intro n
  induction n with
  | zero => intro _; simp [envS]
  | succ n ih =>
    intro hn
    have := ih (by omega)
    by_cases hw : ((ops[n]?).bind (·.dst)) = some t
    · have hs := h n (by omega) hw
      by_cases hni : n < i
      · rw [show min (n + 1) i = min n i + 1 by omega, show min n i = n by omega]
        simp only [envS, hs.2 hni, if_true, hw, put_same]
      · rw [show min (n + 1) i = min n i by omega]
        have : S n = false := by cases hq : S n with | false => rfl | true => exact absurd (hs.1 hq) hni
        simp only [envS, this, Bool.false_eq_true, if_false]; assumption
    · have h1 : envS ops e0 vs S (n + 1) t = envS ops e0 vs S n t := by
        simp only [envS]; split
        · exact put_other hw
        · rfl
      rw [h1, this]
      by_cases hni : n < i
      · rw [show min (n + 1) i = n + 1 by omega, show min n i = n by omega]
        simp only [envS, if_true]; exact (put_other hw).symm
      · rw [show min (n + 1) i = min n i by omega]

theorem envS_full {pol : Nat → Nat} {cf : CallF} {ops : Array Oper} {E : Nat → Env} {Hs : Nat → Hp} {vs : Nat → AV} (C : Canon P pol cf ops E Hs vs) : ∀ n, n ≤ ops.size → envS ops (E 0) vs (fun _ => true) n = E n := by
  intro n
  induction n with
  | zero => intro _; rfl
  | succ n ih =>
    intro hn
    have ho : ops[n]? = some ops[n] := by simp [show n < ops.size by omega]
    rw [(C.step n _ ho).2]
    simp only [envS, if_true, ho, Option.bind_some, ih (by omega)]

theorem mask_in {acc : List Nat} {i : Nat} : ∀ {l : List Nat}, (maskIn acc l).testBit i = true → ∃ k ∈ l, i = k ∨ (acc.getD k 0).testBit i = true := by
  intro l
  induction l with
  | nil => intro h; simp [maskIn] at h
  | cons k r ih =>
    intro h
    simp only [maskIn, Nat.testBit_or, Bool.or_eq_true] at h
    rcases h with (h | h) | h
    · refine ⟨k, by simp, .inl ?_⟩
      rw [Nat.one_shiftLeft, Nat.testBit_two_pow] at h
      simp at h; exact h.symm
    · exact ⟨k, by simp, .inr h⟩
    · obtain ⟨k', h1, h2⟩ := ih h
      exact ⟨k', by simp [h1], h2⟩
theorem mask_l {i : Nat} : ∀ {l : List Nat}, (maskL l).testBit i = l.contains i := by
  intro l
  induction l with
  | nil => simp [maskL]
  | cons k r ih =>
    simp only [maskL, Nat.testBit_or, ih, Nat.one_shiftLeft, Nat.testBit_two_pow, List.contains_cons]
    by_cases h : k = i
    · subst h; simp
    · simp [h, Ne.symm h]
theorem mem_masks {md : Region.Mode} {ops : Array Oper} {S : Nat → Bool} (hS : ∀ j o, ops[j]? = some o → S j = true → ∀ k ∈ binding md o, S k = true) :
    ∀ (ds : List (List Nat)) (acc : List Nat), ds = (ops.toList.map (binding md)).drop acc.length →
      (∀ j o, j < acc.length → ops[j]? = some o → (∀ k ∈ binding md o, S k = true) → ∀ i, (acc.getD j 0).testBit i = true → S i = true) →
      ∀ j o, ops[j]? = some o → (∀ k ∈ binding md o, S k = true) → ∀ i, ((masksFrom ds acc).getD j 0).testBit i = true → S i = true := by
  intro ds
  induction ds with
  | nil =>
    intro acc hd hacc j o ho hk i hi
    simp only [masksFrom] at hi
    by_cases hj : j < acc.length
    · exact hacc j o hj ho hk i hi
    · simp [List.getD_eq_getElem?_getD, List.getElem?_eq_none (Nat.le_of_not_lt hj)] at hi
  | cons d r ih =>
    intro acc hd hacc
    have hlen : acc.length < (ops.toList.map (binding md)).length := by
      have := congrArg List.length hd
      simp only [List.length_cons, List.length_drop] at this; omega
    rw [List.drop_eq_getElem_cons hlen] at hd
    simp only [List.cons.injEq] at hd
    obtain ⟨hd1, hd2⟩ := hd
    refine ih (acc ++ [maskIn acc d]) (by simpa using hd2) fun j o hj ho hk i hi => ?_
    simp only [List.length_append, List.length_cons, List.length_nil] at hj
    by_cases hja : j < acc.length
    · rw [List.getD_eq_getElem?_getD, List.getElem?_append_left hja, ← List.getD_eq_getElem?_getD] at hi
      exact hacc j o hja ho hk i hi
    · have hje : j = acc.length := by omega
      subst hje
      rw [List.getD_eq_getElem?_getD, List.getElem?_append_right (Nat.le_refl _)] at hi
      simp only [Nat.sub_self, List.getElem?_cons_zero, Option.getD_some] at hi
      obtain ⟨k, hkm, hki⟩ := mask_in hi
      have hob : d = binding md o := by
        rw [hd1, List.getElem_map]
        have := Array.getElem?_eq_some_iff.1 ho
        obtain ⟨h1, h2⟩ := this
        congr 1
      rw [hob] at hkm
      have hSk := hk k hkm
      rcases hki with rfl | hki
      · exact hSk
      · by_cases hkl : k < acc.length
        · have hko : ∃ o', ops[k]? = some o' := by
            have hs : acc.length < ops.size := by simpa using hlen
            exact ⟨ops[k]'(by omega), by simp [show k < ops.size by omega]⟩
          obtain ⟨o', ho'⟩ := hko
          exact hacc k o' hkl ho' (hS k o' ho' hSk) i hki
        · simp [List.getD_eq_getElem?_getD, List.getElem?_eq_none (Nat.le_of_not_lt hkl)] at hki
theorem conf_p {cfg : Cfg} {fid : Nat} {ops : Array Oper} {x y : Oper} : confP (preOf cfg fid ops x) (preOf cfg fid ops y) = conflict cfg fid ops x y := by
  unfold confP conflict preOf
  simp only [mask_l]
  rfl

theorem least {Q : Nat → Prop} (h : ∃ p, Q p) : ∃ p, Q p ∧ ∀ q, q < p → ¬ Q q := by
  obtain ⟨p, hp⟩ := h
  induction p using Nat.strongRecOn with
  | _ p ih =>
    by_cases hq : ∃ q, q < p ∧ Q q
    · obtain ⟨q, hqp, hQ⟩ := hq
      exact ih q hqp hQ
    · exact ⟨p, hp, fun q hqp hQ => hq ⟨q, hqp, hQ⟩⟩

theorem topo_spec {md : Region.Mode} {ops : Array Oper} {ord : List Nat} (h : topo md ops ord = true) {S : Nat → Bool} (hne : ∃ i, i < ops.size ∧ S i = false) :
    ∃ i o, ops[i]? = some o ∧ S i = false ∧ ∀ k ∈ binding md o, S k = true := by
  unfold topo at h
  simp only [Bool.and_eq_true, beq_iff_eq, List.all_eq_true, List.mem_range, List.contains_eq_mem, decide_eq_true_eq] at h
  obtain ⟨⟨hlen, hall⟩, hord⟩ := h
  obtain ⟨i0, hi0, hs0⟩ := hne
  have hex : ∃ p, ∃ hp : p < ord.length, S ord[p] = false := by
    obtain ⟨p, hp, he⟩ := List.getElem_of_mem (hall i0 hi0)
    exact ⟨p, hp, by rw [he]; exact hs0⟩
  obtain ⟨p, ⟨hp, hs⟩, hleast⟩ := least hex
  have hmin : ∀ q, q < p → ∀ hq : q < ord.length, S ord[q] = true := by
    intro q hq hql
    have := hleast q hq
    cases hb : S ord[q] with
    | true => rfl
    | false => exact absurd ⟨hql, hb⟩ this
  have hz : (ord[p], p) ∈ ord.zipIdx := by
    rw [List.mem_zipIdx_iff_getElem?]; simp [hp]
  have := hord _ hz
  simp only at this
  split at this
  · rename_i o ho
    refine ⟨ord[p], o, ho, hs, fun k hk => ?_⟩
    have hk2 : k ∈ ord.take p := by simpa using List.all_eq_true.1 this k hk
    obtain ⟨q, hq, he⟩ := List.getElem_of_mem hk2
    simp only [List.length_take] at hq
    rw [List.getElem_take] at he
    rw [← he]
    exact hmin q (by omega) (by omega)
  · simp at this

/-- Along the run: the heap is turned by operations of kind 2 alone. -/
theorem heap_same {cfg : Cfg} {fid : Nat} {cf : CallF} (hcf : CfPure cfg cf) {ops : Array Oper} {E : Nat → Env} {Hs : Nat → Hp} {vs : Nat → AV} (C : Canon P (cfg.pol fid) cf ops E Hs vs) :
    ∀ d p, p + d ≤ ops.size → (∀ j o, ops[j]? = some o → 2 ≤ opKind cfg fid o → ¬ (p ≤ j ∧ j < p + d)) → Hs (p + d) = Hs p := by
  intro d
  induction d with
  | zero => intro p _ _; rfl
  | succ d ih =>
    intro p hp hk
    have ho : ops[p + d]? = some ops[p + d] := by simp [show p + d < ops.size by omega]
    have h1 := stepV_kind hcf (Nat.lt_of_not_le fun hq => hk (p + d) _ ho hq ⟨by omega, by omega⟩) (C.step _ _ ho).1
    rw [show p + (d + 1) = p + d + 1 by omega, h1]
    exact ih p (by omega) fun j o hj hq hin => hk j o hj hq ⟨hin.1, by omega⟩

theorem heap_eq {cfg : Cfg} {fid : Nat} {cf : CallF} (hcf : CfPure cfg cf) {ops : Array Oper} {E : Nat → Env} {Hs : Nat → Hp} {vs : Nat → AV} (C : Canon P (cfg.pol fid) cf ops E Hs vs) {p q : Nat} (hp : p ≤ ops.size) (hq : q ≤ ops.size)
    (h : ∀ j o, ops[j]? = some o → 2 ≤ opKind cfg fid o → (j < p ↔ j < q)) : Hs p = Hs q := by
  rcases Nat.le_total p q with hle | hle
  · have := heap_same hcf C (q - p) p (by omega) (fun j o hj hk hin => by have := h j o hj hk; omega)
    rw [show p + (q - p) = q by omega] at this; exact this.symm
  · have := heap_same hcf C (p - q) q (by omega) (fun j o hj hk hin => by have := h j o hj hk; omega)
    rw [show q + (p - q) = p by omega] at this; exact this

/-- Along the run: where blocks are made alone, all that was is there. -/
theorem heap_ext {cfg : Cfg} {fid : Nat} {cf : CallF} (hcf : CfPure cfg cf) (hce : CfExt cfg cf) {ops : Array Oper} {E : Nat → Env} {Hs : Nat → Hp} {vs : Nat → AV} (C : Canon P (cfg.pol fid) cf ops E Hs vs) :
    ∀ d p, p + d ≤ ops.size → (∀ j o, ops[j]? = some o → 2 ≤ opKind cfg fid o → p ≤ j → j < p + d → opKind cfg fid o = 3) → (∀ r, p ≤ r → r ≤ p + d → ∀ b cs, (Hs r).h b = some cs → b < (Hs r).g) → HExt (Hs p) (Hs (p + d)) := by
  intro d
  induction d with
  | zero => intro p _ _ _; exact HExt.refl _
  | succ d ih =>
    intro p hp hk hw
    have ho : ops[p + d]? = some ops[p + d] := by simp [show p + d < ops.size by omega]
    refine (ih p (by omega) (fun j o hj h2 h3 h4 => hk j o hj h2 h3 (by omega)) (fun r h1 h2 => hw r h1 (by omega))).trans ?_
    rw [show p + (d + 1) = p + d + 1 by omega]
    by_cases h2 : 2 ≤ opKind cfg fid ops[p + d]
    · exact stepV_new hce (hw (p + d) (by omega) (by omega)) (hk (p + d) _ ho h2 (by omega) (by omega)) (C.step _ _ ho).1
    · rw [stepV_kind hcf (Nat.lt_of_not_le h2) (C.step _ _ ho).1]; exact HExt.refl _

theorem mode_spec {cfg : Cfg} {fid : Nat} {ops : Array Oper} {md : Region.Mode} (h : modeOk cfg fid ops md = true) :
    (∃ ord, topo md ops ord = true) ∧ ∀ i j x y, i < j → ops[i]? = some x → ops[j]? = some y → conflict cfg fid ops x y = true → ((masksFrom (ops.toList.map (binding md)) []).getD j 0).testBit i = true := by
  unfold modeOk at h
  simp only [Bool.and_eq_true, Bool.or_eq_true, List.all_eq_true] at h
  refine ⟨h.1.elim (fun h => ⟨_, h⟩) (fun h => ⟨_, h⟩), fun i j x y hij hx hy hc => ?_⟩
  have g : ∀ {l : List (Nat × Option Nat × Nat × Bool × Bool)} {k : Nat} {z : Nat × Option Nat × Nat × Bool × Bool}, l[k]? = some z → (z, k) ∈ l.zipIdx := by
    intro l k z hz
    exact List.mem_zipIdx_iff_getElem?.2 hz
  have hy' : (ops.toList.map (preOf cfg fid ops))[j]? = some (preOf cfg fid ops y) := by rw [List.getElem?_map, toList_get, hy]; rfl
  have hx' : ((ops.toList.map (preOf cfg fid ops)).take j)[i]? = some (preOf cfg fid ops x) := by rw [List.getElem?_take, if_pos hij, List.getElem?_map, toList_get, hx]; rfl
  have := h.2 _ (g hy') _ (g hx')
  simp only [conf_p, hc, Bool.not_true, Bool.false_eq_true, false_or] at this
  exact this

theorem conflict_dst {cfg : Cfg} {fid : Nat} {ops : Array Oper} {x y : Oper} {t : Nat} : (x.dst = some t ∧ (t ∈ looks ops y ∨ y.dst = some t)) ∨ (y.dst = some t ∧ t ∈ looks ops x) → conflict cfg fid ops x y = true := by
  unfold conflict
  rintro (⟨h1, h2⟩ | ⟨h1, h2⟩)
  · rw [h1]
    rcases h2 with h2 | h2
    · simp [h2]
    · simp [h2]
  · rw [h1]; simp [h2]
theorem free_kind {cfg : Cfg} {fid : Nat} {o : Oper} (h : 2 ≤ opKind cfg fid o) : freeO (cfg.pol fid) o = false := by
  obtain ⟨dst, op, ty, pos, after, guard⟩ := o
  cases hf : freeO (cfg.pol fid) ⟨dst, op, ty, pos, after, guard⟩ with
  | false => rfl
  | true =>
    exfalso
    simp only [freeO, Bool.and_eq_true] at hf
    have h2 := hf.2
    unfold opKind at h
    cases op <;> first | (simp [frK] at h2; done) | (simp only [Op.kind] at h; omega)
theorem conflict_kind {cfg : Cfg} {fid : Nat} {ops : Array Oper} {x y : Oper} : (2 ≤ opKind cfg fid x ∧ opKind cfg fid y ≠ 0 ∧ freeO (cfg.pol fid) y = false) ∨ (opKind cfg fid y = 2 ∧ opKind cfg fid x ≠ 0 ∧ freeO (cfg.pol fid) x = false ∧ (lateO (cfg.pol fid) x && vcall y) = false) → conflict cfg fid ops x y = true := by
  unfold conflict opKindF
  rintro (⟨h1, h2, h3⟩ | ⟨h1, h2, h3, h4⟩)
  · rw [free_kind h1, h3]; simp [h1, h2]
  · rw [free_kind (o := y) (by omega), h3, h4]; simp [h1, h2]
theorem kind_v {cfg : Cfg} {fid : Nat} {y : Oper} (h : blkO (cfg.pol fid) y = true) : vcall y = false := by
  obtain ⟨dst, op, ty, pos, after, guard⟩ := y
  cases op <;> first | rfl | skip
  case call c =>
    obtain ⟨callee, as, ats⟩ := c
    cases callee with
    | value f => exfalso; simp only [blkO, Op.kind, Bool.false_eq_true, if_false] at h; split at h <;> simp at h
    | invoke r m => rfl
    | builtin b => rfl
theorem blk_kind {cfg : Cfg} {fid : Nat} {y : Oper} (h : blkO (cfg.pol fid) y = true) : opKind cfg fid y = 2 := by
  have hv := kind_v h
  obtain ⟨dst, op, ty, pos, after, guard⟩ := y
  unfold blkO at h
  unfold opKind
  cases op <;> (try simp only [Op.kind] at h ⊢) <;> (try (simp at h; done)) <;> (try (simpa using h))
  case call c =>
    obtain ⟨callee, as, ats⟩ := c
    cases callee with
    | value f => simp [vcall] at hv
    | invoke r m => exfalso; simp only [Bool.false_eq_true, if_false] at h; split at h <;> simp at h
    | builtin b => cases b <;> simp at h ⊢

theorem wpAny_ok {cfg : Cfg} {fid : Nat} {cf : CallF} (hcf : CallOk P cf) (hcp : CfPure cfg cf) (hce : CfExt cfg cf) {ops : Array Oper} {md : Region.Mode} (hmd : modeOk cfg fid ops md = true) {E : Nat → Env} {Hs : Nat → Hp} {vs : Nat → AV} (C : Canon P (cfg.pol fid) cf ops E Hs vs)
    {N : Nat} (hd : ∀ o ∈ ops.toList, ∀ t, o.dst = some t → t < N) {Q : Exit → Act → World → Prop} {base : Nat} {ρ0 : Nat → Loc} {F0 : Nat → Nat → Prop} {w0 : World} {asz : Nat} (hN : N ≤ asz)
    (hlate : ∀ i o, ops[i]? = some o → lateO (cfg.pol fid) o = true → ∀ k, i ≤ k → k ≤ ops.size → (∀ j y, i < j → j < k → ops[j]? = some y → blkO (cfg.pol fid) y = false) → stepV P (cfg.pol fid) cf ops o (E i) (Hs k) = some (vs i, Hs k))
    (hfree : ∀ i o, ops[i]? = some o → freeO (cfg.pol fid) o = true → ∀ k, k ≤ ops.size → stepV P (cfg.pol fid) cf ops o (E i) (Hs k) = some (vs i, Hs k))
    (hQ : ∀ a' w' ρ' F', After base (Hs 0) ρ0 F0 w0 (Hs ops.size) ρ' F' w' → EnvR (Hs ops.size) ρ' F' w' (E ops.size) a' → a'.tmps.size = asz → Q .normal a' w') :
    ∀ (fuel : Nat) (listed : Array Bool) (a : Act) (w : World) (q : Nat) (ρ : Nat → Loc) (F : Nat → Nat → Prop), listed.size = ops.size → ((List.range ops.size).filter fun i => !listed.getD i true).length ≤ fuel → q ≤ ops.size →
      (∀ j o, ops[j]? = some o → listed.getD j false = true → ∀ k ∈ binding md o, listed.getD k false = true) →
      (∀ j o, ops[j]? = some o → 2 ≤ opKind cfg fid o → (listed.getD j false = true ↔ j < q)) → (∀ r, r ≤ q → ∀ b cs, (Hs r).h b = some cs → b < (Hs r).g) →
      After base (Hs 0) ρ0 F0 w0 (Hs q) ρ F w → EnvR (Hs q) ρ F w (envS ops (E 0) vs (fun j => listed.getD j false) ops.size) a → a.tmps.size = asz → wpAny P md ops Q fuel listed a w := by
  obtain ⟨⟨ord, htopo⟩, hconf⟩ := mode_spec hmd
  have gD : ∀ (listed : Array Bool) (b : Bool) (i : Nat), i < listed.size → listed.getD i b = listed.getD i (!b) := by
    intro listed b i hi; simp [Array.getD, hi]
  -- when all are taken
  have full : ∀ (listed : Array Bool) (a : Act) (w : World) (q : Nat) (ρ : Nat → Loc) (F : Nat → Nat → Prop), listed.size = ops.size → Region.ready md ops listed = [] → q ≤ ops.size →
      (∀ j o, ops[j]? = some o → 2 ≤ opKind cfg fid o → (listed.getD j false = true ↔ j < q)) →
      After base (Hs 0) ρ0 F0 w0 (Hs q) ρ F w → EnvR (Hs q) ρ F w (envS ops (E 0) vs (fun j => listed.getD j false) ops.size) a → a.tmps.size = asz → Q .normal a w := by
    intro listed a w q ρ F hls hready hq hk haf he hs
    have hall : ∀ i, i < ops.size → listed.getD i false = true := by
      intro i hi
      cases hb : listed.getD i false with
      | true => rfl
      | false =>
        obtain ⟨j, o, ho, hsj, hpre⟩ := topo_spec htopo (S := fun j => listed.getD j false) ⟨i, hi, hb⟩
        have hj := (Array.getElem?_eq_some_iff.1 ho).1
        have : j ∈ Region.ready md ops listed := mem_ready.2 ⟨by rw [gD listed true j (by omega)]; exact hsj, o, ho, fun e hem hbd => hpre e.on (by
          unfold binding
          exact List.mem_map.2 ⟨e, List.mem_filter.2 ⟨by simpa using hem, hbd⟩, rfl⟩)⟩
        rw [hready] at this; simp at this
    have hHq : Hs q = Hs ops.size := heap_eq hcp C hq (Nat.le_refl _) fun j o ho hk2 => by
      have hj := (Array.getElem?_eq_some_iff.1 ho).1
      have := (hk j o ho hk2).1 (hall j hj); omega
    have hE : envS ops (E 0) vs (fun j => listed.getD j false) ops.size = E ops.size := by
      rw [← envS_full C ops.size (Nat.le_refl _)]
      funext t
      have := envS_slot (ops := ops) (e0 := E 0) (vs := vs) (S := fun j => listed.getD j false) (t := t) (i := ops.size) (fun j hj _ => ⟨fun _ => hj, fun _ => hall j hj⟩) ops.size (Nat.le_refl _)
      rw [this, Nat.min_self]
    rw [hHq] at haf he
    rw [hE] at he
    exact hQ a w ρ F haf he hs
  intro fuel
  induction fuel with
  | zero =>
    intro listed a w q ρ F hls hcnt hq hclosed hk hwf haf he hs
    have hready : Region.ready md ops listed = [] := by
      apply List.eq_nil_iff_forall_not_mem.2
      intro i hi
      obtain ⟨h1, o, ho, -⟩ := mem_ready.1 hi
      have hil := (Array.getElem?_eq_some_iff.1 ho).1
      have : i ∈ ((List.range ops.size).filter fun i => !listed.getD i true) := List.mem_filter.2 ⟨List.mem_range.2 hil, by simp [h1]⟩
      have hnil : ((List.range ops.size).filter fun i => !listed.getD i true) = [] := List.eq_nil_of_length_eq_zero (by omega)
      rw [hnil] at this; simp at this
    exact ⟨hready, full listed a w q ρ F hls hready hq hk haf he hs⟩
  | succ fuel ih =>
    intro listed a w q ρ F hls hcnt hq hclosed hk hwf haf he hs
    refine ⟨fun hready => full listed a w q ρ F hls hready hq hk haf he hs, fun i hi => ?_⟩
    obtain ⟨h1, o, ho, hpre⟩ := mem_ready.1 hi
    have hil := (Array.getElem?_eq_some_iff.1 ho).1
    have hSi : listed.getD i false = false := by rw [gD listed false i (by omega)]; exact h1
    have hbind : ∀ k ∈ binding md o, listed.getD k false = true := by
      intro k hk
      unfold binding at hk
      obtain ⟨e, hem, rfl⟩ := List.mem_map.1 hk
      obtain ⟨hem1, hem2⟩ := List.mem_filter.1 hem
      exact hpre e (by simpa using hem1) hem2
    -- who conflicts with i
    have hcl : ∀ j y, ops[j]? = some y → j ≠ i → (conflict cfg fid ops y o = true ∧ j < i ∨ conflict cfg fid ops o y = true ∧ i < j) → (listed.getD j false = true ↔ j < i) := by
      intro j y hy hne hc
      rcases hc with ⟨hc, hlt⟩ | ⟨hc, hlt⟩
      · have hin := hconf j i y o hlt hy ho hc
        have := mem_masks (md := md) (ops := ops) (S := fun j => listed.getD j false) hclosed _ [] rfl (fun j o hj => absurd hj (Nat.not_lt_zero _)) i o ho hbind j hin
        exact ⟨fun _ => hlt, fun _ => this⟩
      · refine ⟨fun hs => ?_, fun h => by omega⟩
        have hin := hconf i j o y hlt ho hy hc
        have := mem_masks (md := md) (ops := ops) (S := fun j => listed.getD j false) hclosed _ [] rfl (fun j o hj => absurd hj (Nat.not_lt_zero _)) j y hy (hclosed j y hy hs) i hin
        simp only [hSi] at this; simp at this
    have hcs : ∀ x y, conflict cfg fid ops x y = true ∨ conflict cfg fid ops y x = true ∨ True := fun _ _ => .inr (.inr trivial)
    -- the slots that i looks at
    have hslot : ∀ t ∈ looks ops o, envS ops (E 0) vs (fun j => listed.getD j false) ops.size t = E i t := by
      intro t ht
      have := envS_slot (ops := ops) (e0 := E 0) (vs := vs) (S := fun j => listed.getD j false) (t := t) (i := i) (fun j hj hw => by
        have hy : ops[j]? = some ops[j] := by simp [hj]
        rw [hy] at hw
        simp only [Option.bind_some] at hw
        by_cases hji : j = i
        · subst hji
          exact ⟨fun h => by rw [hSi] at h; simp at h, fun h => by omega⟩
        · refine hcl j _ hy hji ?_
          rcases Nat.lt_or_gt_of_ne hji with h | h
          · exact .inl ⟨conflict_dst (.inl ⟨hw, .inl ht⟩), h⟩
          · exact .inr ⟨conflict_dst (.inr ⟨hw, ht⟩), h⟩) ops.size (Nat.le_refl _)
      rw [this, Nat.min_eq_right (by omega), envS_full C i (by omega)]
    have hcan := C.step i o ho
    have hset : ∀ j, j ≠ i → (listed.setIfInBounds i true).getD j false = listed.getD j false := by
      intro j hj; simp [Array.getD_eq_getD_getElem?, Array.getElem?_setIfInBounds_ne (Ne.symm hj)]
    have hseti : (listed.setIfInBounds i true).getD i false = true := by simp [Array.getD_eq_getD_getElem?, show i < listed.size by omega]
    have hst : ∃ q', q' ≤ ops.size ∧ stepV P (cfg.pol fid) cf ops o (envS ops (E 0) vs (fun j => listed.getD j false) ops.size) (Hs q) = some (vs i, Hs q') ∧
        (∀ j y, ops[j]? = some y → 2 ≤ opKind cfg fid y → ((listed.setIfInBounds i true).getD j false = true ↔ j < q')) ∧ (∀ r, r < q' → ∀ b cs, (Hs r).h b = some cs → b < (Hs r).g) := by
      by_cases hk2 : 2 ≤ opKind cfg fid o
      · have hiq : q ≤ i := by
          rcases Nat.lt_or_ge i q with h | h
          · have := (hk i o ho hk2).2 h; rw [hSi] at this; simp at this
          · exact h
        have hcj : ∀ j y, ops[j]? = some y → 2 ≤ opKind cfg fid y → j ≠ i → (listed.getD j false = true ↔ j < i) := fun j y hy hky hji => hcl j y hy hji (by
          rcases Nat.lt_or_gt_of_ne hji with h | h
          · exact .inl ⟨conflict_kind (.inl ⟨hky, by omega, free_kind hk2⟩), h⟩
          · exact .inr ⟨conflict_kind (.inl ⟨hk2, by omega, free_kind hky⟩), h⟩)
        have hHr : ∀ r, q ≤ r → r ≤ i → Hs q = Hs r := fun r hr1 hr2 => heap_eq hcp C hq (by omega) fun j y hy hky => by
          by_cases hji : j = i
          · subst hji; omega
          · have h1 := hcj j y hy hky hji
            have h2 := hk j y hy hky
            constructor
            · intro h; omega
            · intro h; exact h2.1 (h1.2 (by omega))
        refine ⟨i + 1, by omega, ?_, fun j y hy hky => ?_, fun r hr => ?_⟩
        · rw [stepV_congr hslot, hHr i hiq (Nat.le_refl _)]; exact hcan.1
        · by_cases hji : j = i
          · subst hji; rw [hseti]; simp
          · rw [hset j hji, hcj j y hy hky hji]; omega
        · rcases Nat.le_total r q with h | h
          · exact hwf r h
          · rw [← hHr r h (by omega)]; exact hwf q (Nat.le_refl _)
      · have hkeep : ∀ j y, ops[j]? = some y → 2 ≤ opKind cfg fid y → ((listed.setIfInBounds i true).getD j false = true ↔ j < q) := by
          intro j y hy hky
          by_cases hji : j = i
          · subst hji; rw [ho] at hy; simp only [Option.some.injEq] at hy; subst hy; exact absurd hky hk2
          · rw [hset j hji]; exact hk j y hy hky
        refine ⟨q, hq, ?_, hkeep, fun r hr => hwf r (by omega)⟩
        by_cases hk0 : opKind cfg fid o = 0
        · rw [stepV_congr hslot]; exact stepV_kind0 hk0 hcan.1 _
        · cases hfo : freeO (cfg.pol fid) o with
          | true => rw [stepV_congr hslot]; exact hfree i o ho hfo q hq
          | false =>
          have hk1 : opKind cfg fid o = 1 := by omega
          have hlow : ∀ j y, ops[j]? = some y → 2 ≤ opKind cfg fid y → j < i → j < q := fun j y hy hky hji =>
            (hk j y hy hky).1 ((hcl j y hy (by omega) (.inl ⟨conflict_kind (.inl ⟨hky, hk0, hfo⟩), hji⟩)).2 hji)
          have hsame := stepV_kind hcp (by omega : opKind cfg fid o < 2) hcan.1
          rcases Nat.le_total q i with hqi | hqi
          · have hHq : Hs q = Hs i := heap_eq hcp C hq (by omega) fun j y hy hky => ⟨fun h => by omega, fun h => hlow j y hy hky h⟩
            rw [stepV_congr hslot, hHq, hcan.1, hsame]
          · cases hlo : lateO (cfg.pol fid) o with
            | true =>
              rw [stepV_congr hslot]
              refine hlate i o ho hlo q hqi hq fun j y h1 h2 hy => ?_
              cases hbl : blkO (cfg.pol fid) y with
              | false => rfl
              | true =>
                have hky := blk_kind hbl
                have h5 := hcl j y hy (by omega) (.inr ⟨conflict_kind (.inr ⟨hky, hk0, hfo, by rw [kind_v hbl]; simp⟩), h1⟩)
                have h6 := (hk j y hy (by omega)).2 h2
                have := h5.1 h6; omega
            | false =>
              have hex : HExt (Hs i) (Hs (i + (q - i))) := heap_ext hcp hce C (q - i) i (by omega) (fun j y hy hky h1 h2 => by
                have hji : j ≠ i := by intro h; subst h; rw [ho] at hy; simp only [Option.some.injEq] at hy; subst hy; omega
                have h3 := opKind_le (cfg := cfg) (fid := fid) (o := y)
                by_cases h4 : opKind cfg fid y = 2
                · have h5 := hcl j y hy hji (.inr ⟨conflict_kind (.inr ⟨h4, hk0, hfo, by rw [hlo]; rfl⟩), by omega⟩)
                  have h6 := (hk j y hy hky).2 (by omega)
                  have := h5.1 h6; omega
                · omega) (fun r h1 h2 => hwf r (by omega))
              rw [show i + (q - i) = q by omega] at hex
              rw [stepV_congr hslot]; exact stepV_ext hce hk1 hcan.1 hex
    obtain ⟨q', hq', hstep, hk', hwf'⟩ := hst
    refine wpOp_ok hcf ho (e := envS ops (E 0) vs (fun j => listed.getD j false) ops.size) (by rw [astep_eq, hstep]; rfl) haf.inv he (fun t ht => by
      exact Nat.lt_of_lt_of_le (hd o (by rw [← toList_get] at ho; exact List.mem_of_getElem? ho) t ht) (by omega)) fun a' w' ρ' F' haf' he' hs' => ?_
    refine ih (listed.setIfInBounds i true) a' w' q' ρ' F' (by simp [hls]) ?_ hq' ?_ hk' (fun r hr => by
      rcases Nat.lt_or_eq_of_le hr with h | h
      · exact hwf' r h
      · rw [h]; exact haf'.inv.lt) (haf.trans haf') ?_ (by omega)
    · -- one less is left
      have hlt : ((List.range ops.size).filter fun j => !(listed.setIfInBounds i true).getD j true).length < ((List.range ops.size).filter fun j => !listed.getD j true).length := by
        have hsub : ((List.range ops.size).filter fun j => !(listed.setIfInBounds i true).getD j true) = (((List.range ops.size).filter fun j => !listed.getD j true).filter fun j => j ≠ i) := by
          rw [List.filter_filter]
          apply List.filter_congr
          intro j hj
          by_cases hji : j = i
          · subst hji; simp [Array.getD_eq_getD_getElem?, show j < listed.size by omega]
          · simp [Array.getD_eq_getD_getElem?, Array.getElem?_setIfInBounds_ne (Ne.symm hji), hji]
        rw [hsub]
        refine List.length_filter_lt_length_iff_exists.2 ⟨i, List.mem_filter.2 ⟨List.mem_range.2 hil, by simp [h1]⟩, by simp⟩
      omega
    · intro j y hy hs k hkb
      by_cases hki : k = i
      · subst hki; simp [Array.getD_eq_getD_getElem?, show k < listed.size by omega]
      · have : (listed.setIfInBounds i true).getD k false = listed.getD k false := by simp [Array.getD_eq_getD_getElem?, Array.getElem?_setIfInBounds_ne (Ne.symm hki)]
        rw [this]
        by_cases hji : j = i
        · subst hji; rw [ho] at hy; simp only [Option.some.injEq] at hy; subst hy; exact hbind k hkb
        · have hsj : (listed.setIfInBounds i true).getD j false = listed.getD j false := by simp [Array.getD_eq_getD_getElem?, Array.getElem?_setIfInBounds_ne (Ne.symm hji)]
          rw [hsj] at hs
          exact hclosed j y hy hs k hkb
    · -- the environment
      have henv : envS ops (E 0) vs (fun j => (listed.setIfInBounds i true).getD j false) ops.size = put (envS ops (E 0) vs (fun j => listed.getD j false) ops.size) o.dst (vs i) := by
        funext t
        by_cases htd : o.dst = some t
        · rw [htd, put_same]
          have hS' : ∀ j, j < ops.size → ((ops[j]?).bind (·.dst)) = some t → ((fun j => (listed.setIfInBounds i true).getD j false) j = true ↔ j < i + 1) := by
            intro j hj hw
            have hy : ops[j]? = some ops[j] := by simp [hj]
            rw [hy] at hw
            simp only [Option.bind_some] at hw
            by_cases hji : j = i
            · subst hji; simp [Array.getD_eq_getD_getElem?, show j < listed.size by omega]
            · have hsj : (listed.setIfInBounds i true).getD j false = listed.getD j false := by simp [Array.getD_eq_getD_getElem?, Array.getElem?_setIfInBounds_ne (Ne.symm hji)]
              simp only [hsj]
              rw [hcl j _ hy hji (by
                rcases Nat.lt_or_gt_of_ne hji with h | h
                · exact .inl ⟨conflict_dst (.inl ⟨hw, .inr htd⟩), h⟩
                · exact .inr ⟨conflict_dst (.inl ⟨htd, .inr hw⟩), h⟩)]
              omega
          rw [envS_slot hS' ops.size (Nat.le_refl _), Nat.min_eq_right (by omega), envS_full C (i + 1) (by omega), hcan.2, htd, put_same]
        · rw [put_other htd]
          have hnw : ∀ n, envS ops (E 0) vs (fun j => (listed.setIfInBounds i true).getD j false) n t = envS ops (E 0) vs (fun j => listed.getD j false) n t := by
            intro n
            induction n with
            | zero => rfl
            | succ n ihn =>
              by_cases hni : n = i
              · subst hni
                simp only [envS]
                have h1 : (listed.setIfInBounds n true).getD n false = true := by simp [Array.getD_eq_getD_getElem?, show n < listed.size by omega]
                rw [if_pos h1, if_neg (by rw [hSi]; simp)]
                rw [put_other (by rw [ho]; simpa using htd)]; exact ihn
              · have h1 : (listed.setIfInBounds i true).getD n false = listed.getD n false := by simp [Array.getD_eq_getD_getElem?, Array.getElem?_setIfInBounds_ne (Ne.symm hni)]
                simp only [envS, h1]
                split
                · by_cases hw : ((ops[n]?).bind (·.dst)) = some t
                  · rw [hw, put_same, put_same]
                  · rw [put_other hw, put_other hw]; exact ihn
                · exact ihn
          exact hnw ops.size
      rw [henv]; exact he'
end
end Go.Proofs.YtnejoidfbgklbaaGreatDoor.Eng
