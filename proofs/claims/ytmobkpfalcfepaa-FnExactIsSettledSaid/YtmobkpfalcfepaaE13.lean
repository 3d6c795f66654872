/- The engine, part 13: a region that draws its order comes to the same as its text. -/
import Derived.Test.YtmobkpfalcfepaaE12
namespace Go.Proofs.Ytmobkpfalcfepaa.Eng
open Go Go.RowKit
set_option linter.unusedSimpArgs false
set_option linter.unusedVariables false

section
variable {P : Program}

def stepV (P : Program) (pol : Nat → Nat) (cf : CallF) (ops : Array Oper) (o : Oper) (e : Env) (H : Hp) : Option (AV × Hp) :=
  (awanted ops o e).bind fun w => if w then aop P pol cf o e H else some (.v undef, H)
theorem astep_eq (pol : Nat → Nat) (cf : CallF) (ops : Array Oper) (o : Oper) (e : Env) (H : Hp) : astep P pol cf ops o e H = (stepV P pol cf ops o e H).map fun r => (put e o.dst r.1, r.2) := by
  unfold astep stepV
  cases awanted ops o e with
  | none => rfl
  | some b => cases b <;> rfl

theorem opd_congr {e e2 : Env} {x : Operand} (h : ∀ t, x = .tmp t → e t = e2 t) : opd e x = opd e2 x := by
  cases x <;> first | exact h _ rfl | rfl

theorem mem_opTmps {o : Op} {t : Nat} (h : Operand.tmp t ∈ o.operands) : t ∈ opTmps o := by
  unfold opTmps
  exact List.mem_filterMap.2 ⟨.tmp t, by simpa using h, rfl⟩

theorem aop_congr {pol : Nat → Nat} {cf : CallF} {o : Oper} {e e2 : Env} {H : Hp} (h : ∀ t ∈ opTmps o.op, e t = e2 t) : aop P pol cf o e H = aop P pol cf o e2 H := by
  obtain ⟨dst, op, ty, pos, after, guard⟩ := o
  have hx : ∀ x ∈ op.operands, opd e x = opd e2 x := fun x hm => opd_congr fun t ht => h t (mem_opTmps (ht ▸ hm))
  have parts : ∀ ps : Array (Nat × Operand), (∀ x ∈ (ps.toList.map (·.2)).toArray, opd e x = opd e2 x) → aparts e ps = aparts e2 ps := by
    intro ps hp
    unfold aparts
    refine List.map_congr_left fun p hm => ?_
    obtain ⟨i, x⟩ := p
    simp only [Prod.mk.injEq, true_and]
    exact hp x (by simp only [List.mem_toArray, List.mem_map]; exact ⟨(i, x), hm, rfl⟩)
  have args : ∀ as : Array Operand, (∀ x ∈ as, opd e x = opd e2 x) → as.toList.map (opd e) = as.toList.map (opd e2) := fun as hp => List.map_congr_left fun x hm => hp x (by simpa using hm)
  unfold aop
  cases op <;> simp only [Op.operands] at hx <;> try rfl
  case build t ps => simp only [parts ps hx]
  case buildSlice t n ps => simp only [parts ps hx]
  case makeFunc fn first cap =>
    cases fn <;> try rfl
    simp only [args cap (fun x hm => hx x (by simp [hm]))]
  case slice t x lo hi mx =>
    have h0 := hx x (by simp)
    have hb : ∀ (b : Option Operand) d, (∀ y, b = some y → opd e y = opd e2 y) → bound e d b = bound e2 d b := by
      intro b d hb
      cases b with
      | none => rfl
      | some y => simp only [bound, hb y rfl]
    have hlo : ∀ d, bound e d lo = bound e2 d lo := fun d => hb lo d fun y hy => hx y (by subst hy; simp)
    have hhi : ∀ d, bound e d hi = bound e2 d hi := fun d => hb hi d fun y hy => hx y (by subst hy; simp)
    have hmx : ∀ d, bound e d mx = bound e2 d mx := fun d => hb mx d fun y hy => hx y (by subst hy; simp)
    simp only [h0]
    unfold aslice
    simp only [hlo, hhi, hmx]
    cases mx with
    | none => rfl
    | some y => simp only [hmx]
  case call c =>
    obtain ⟨callee, as, ats⟩ := c
    have ha := args as fun x hm => hx x (by simp [Call.operands, hm])
    cases callee with
    | value f =>
      have hf := hx f (by simp [Call.operands])
      simp only [hf, ha]
    | invoke r m => rfl
    | builtin b => simp only [ha]
  all_goals (simp only [List.mem_toArray, List.mem_cons, List.mem_singleton, List.not_mem_nil, or_false, forall_eq_or_imp, forall_eq] at hx; simp only [hx])

theorem stepV_congr {pol : Nat → Nat} {cf : CallF} {ops : Array Oper} {o : Oper} {e e2 : Env} {H : Hp} (h : ∀ t ∈ looks ops o, e t = e2 t) : stepV P pol cf ops o e H = stepV P pol cf ops o e2 H := by
  have hw : awanted ops o e = awanted ops o e2 := by
    unfold awanted
    cases hg : o.guard with
    | none => rfl
    | some p =>
      obtain ⟨j, want⟩ := p
      simp only
      cases ht : (ops[j]?).bind (·.dst) with
      | none => rfl
      | some t => simp only [h t (by simp [looks, hg, ht])]
  unfold stepV
  rw [hw, aop_congr fun t ht => h t (by simp [looks, ht])]

/-- A call that is none of an own block's leaves the heap. -/
def CfPure (cfg : Cfg) (cf : CallF) : Prop := ∀ p f as H v H', cfg.raw f = false → p ≠ 1 → cf p f as H = some (v, H') → H' = H

theorem aop_kind {cfg : Cfg} {fid : Nat} {cf : CallF} (hcf : CfPure cfg cf) {o : Oper} {e : Env} {H H' : Hp} {v : AV} (hk : opKind cfg fid o ≠ 2) (h : aop P (cfg.pol fid) cf o e H = some (v, H')) : H' = H := by
  obtain ⟨dst, op, ty, pos, after, guard⟩ := o
  have hm : ∀ (x : Option AV), x.map (fun y => (y, H)) = some (v, H') → H' = H := by
    intro x hx; obtain ⟨y, -, hy⟩ := Option.map_eq_some_iff.1 hx; simp only [Prod.mk.injEq] at hy; exact hy.2.symm
  unfold aop at h
  unfold opKind at hk
  cases op <;> simp only [Op.kind, ne_eq, not_true_eq_false] at hk h <;> try (simp at h; done)
  case move x => simp only [Option.some.injEq, Prod.mk.injEq] at h; exact h.2.symm
  case assign x => simp only [Option.some.injEq, Prod.mk.injEq] at h; exact h.2.symm
  case pick c a b => split at h <;> simp only [Option.some.injEq, Prod.mk.injEq, reduceCtorEq] at h; exact h.2.symm
  case build t ps => exact hm _ h
  case buildSlice t n ps =>
    obtain ⟨⟨cs, sz⟩, -, h⟩ := Option.bind_eq_some_iff.1 h
    split at h
    · simp at h
    · split at h
      · rename_i hp; simp [hp] at hk
      · simp only [Option.some.injEq, Prod.mk.injEq] at h; exact h.2.symm
  case load t a => exact hm _ h
  case nilCheck x => split at h <;> simp only [Option.some.injEq, Prod.mk.injEq, reduceCtorEq] at h <;> exact h.2.symm
  case binOp op t x y yt =>
    split at h
    · obtain ⟨q, -, hy⟩ := Option.map_eq_some_iff.1 h; simp only [Prod.mk.injEq] at hy; exact hy.2.symm
    · exact hm _ h
  case unOp => exact hm _ h
  case convert => exact hm _ h
  case makeFunc fn first cap =>
    cases fn <;> simp only [reduceCtorEq, Option.ite_none_right_eq_some, Option.some.injEq, Prod.mk.injEq] at h
    exact h.2.2.symm
  case slice => exact hm _ h
  case fieldAddr => exact hm _ h
  case field => exact hm _ h
  case indexAddr => exact hm _ h
  case index => exact hm _ h
  case extract => exact hm _ h
  case call c =>
    obtain ⟨callee, as, ats⟩ := c
    cases callee with
    | invoke r m => simp at h
    | builtin b =>
      simp only at h hk
      unfold builtinOp at h
      cases b <;> simp only [not_true_eq_false] at hk <;> exact hm _ h
    | value f =>
      simp only at h hk
      split at h
      · rename_i g caps hg
        cases f with
        | func f =>
          simp only [opd, AV.fn.injEq] at hg
          obtain ⟨rfl, rfl⟩ := hg
          simp only [calleeRaw] at hk
          refine hcf _ _ _ _ _ _ ?_ ?_ h
          · cases hr : cfg.raw f with
            | false => rfl
            | true => simp [hr] at hk
          · intro hp; simp [hp] at hk
        | tmp t => simp [calleeRaw] at hk
        | const y => simp [calleeRaw] at hk
        | global q => simp [calleeRaw] at hk
      · simp at h

theorem aop_kind0 {cfg : Cfg} {fid : Nat} {cf : CallF} {o : Oper} {e : Env} {H H' : Hp} {v : AV} (hk : opKind cfg fid o = 0) (h : aop P (cfg.pol fid) cf o e H = some (v, H')) (H2 : Hp) : aop P (cfg.pol fid) cf o e H2 = some (v, H2) := by
  obtain ⟨dst, op, ty, pos, after, guard⟩ := o
  have hm : ∀ (x : Option AV), x.map (fun y => (y, H)) = some (v, H') → x.map (fun y => (y, H2)) = some (v, H2) := by
    intro x hx; obtain ⟨y, rfl, hy⟩ := Option.map_eq_some_iff.1 hx; simp only [Prod.mk.injEq] at hy; rw [hy.1]; rfl
  unfold aop at h ⊢
  unfold opKind at hk
  cases op <;> simp only [Op.kind] at hk h ⊢ <;> (try (simp at h; done)) <;> (try (simp at hk; done))
  case move x => simp only [Option.some.injEq, Prod.mk.injEq] at h; rw [h.1]
  case assign x => simp only [Option.some.injEq, Prod.mk.injEq] at h; rw [h.1]
  case pick c a b =>
    split at h
    · simp only [Option.some.injEq, Prod.mk.injEq] at h; rw [h.1]
    · simp at h
  case build t ps => exact hm _ h
  case buildSlice t n ps =>
    obtain ⟨⟨cs, sz⟩, hb, h⟩ := Option.bind_eq_some_iff.1 h
    refine Option.bind_eq_some_iff.2 ⟨(cs, sz), hb, ?_⟩
    simp only at h ⊢
    split at h
    · simp at h
    · rename_i hne
      rw [if_neg hne]
      split at h
      · rename_i hp; simp [hp] at hk
      · rename_i hp
        rw [if_neg hp]
        simp only [Option.some.injEq, Prod.mk.injEq] at h; rw [h.1]
  case nilCheck x => split at h <;> simp only [Option.some.injEq, Prod.mk.injEq, reduceCtorEq] at h <;> rw [h.1]
  case binOp op t x y yt =>
    split at h
    · obtain ⟨q, hq, hy⟩ := Option.map_eq_some_iff.1 h; simp only [Prod.mk.injEq] at hy; rw [hq]; simp only [Option.map_some]; rw [hy.1]
    · exact hm _ h
  case unOp => exact hm _ h
  case makeFunc fn first cap =>
    cases fn <;> simp only [reduceCtorEq, Option.ite_none_right_eq_some, Option.some.injEq, Prod.mk.injEq] at h ⊢
    exact ⟨h.1, h.2.1, trivial⟩
  case fieldAddr => exact hm _ h
  case field => exact hm _ h
  case index => exact hm _ h
  case extract => exact hm _ h
  case call c =>
    obtain ⟨callee, as, ats⟩ := c
    cases callee with
    | invoke r m => simp at h
    | builtin b =>
      simp only at h hk ⊢
      unfold builtinOp at h ⊢
      cases b <;> (try (simp at hk; done)) <;> exact hm _ h
    | value f =>
      simp only at hk
      split at hk <;> simp at hk

theorem stepV_kind {cfg : Cfg} {fid : Nat} {cf : CallF} (hcf : CfPure cfg cf) {ops : Array Oper} {o : Oper} {e : Env} {H H' : Hp} {v : AV} (hk : opKind cfg fid o ≠ 2) (h : stepV P (cfg.pol fid) cf ops o e H = some (v, H')) : H' = H := by
  unfold stepV at h
  obtain ⟨b, -, h⟩ := Option.bind_eq_some_iff.1 h
  cases b with
  | true => exact aop_kind hcf hk h
  | false => simp at h; exact h.2.symm
theorem stepV_kind0 {cfg : Cfg} {fid : Nat} {cf : CallF} {ops : Array Oper} {o : Oper} {e : Env} {H H' : Hp} {v : AV} (hk : opKind cfg fid o = 0) (h : stepV P (cfg.pol fid) cf ops o e H = some (v, H')) (H2 : Hp) : stepV P (cfg.pol fid) cf ops o e H2 = some (v, H2) := by
  unfold stepV at h ⊢
  obtain ⟨b, hb, h⟩ := Option.bind_eq_some_iff.1 h
  rw [hb]
  cases b with
  | true => exact aop_kind0 hk h H2
  | false => simp at h; simp [h.1]
end
end Go.Proofs.Ytmobkpfalcfepaa.Eng
