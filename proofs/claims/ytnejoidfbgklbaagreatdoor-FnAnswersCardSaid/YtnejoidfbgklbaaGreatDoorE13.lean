/- The engine, part 13: a region that draws its order comes to the same as its text. -/
import Derived.Test.YtnejoidfbgklbaaGreatDoorE12
namespace Go.Proofs.YtnejoidfbgklbaaGreatDoor.Eng
open Go Go.RowKit
set_option linter.unusedSimpArgs false
set_option linter.unusedVariables false

section
variable {P : Program}

theorem astep_eq (pol : Nat → Nat) (cf : CallF) (ops : Array Oper) (o : Oper) (e : Env) (H : Hp) : astep P pol cf ops o e H = (stepV P pol cf ops o e H).map fun r => (put e o.dst r.1, r.2) := by
  unfold astep stepV
  cases awanted ops o e with
  | none => rfl
  | some b => cases b <;> rfl

theorem opd_congr {e e2 : Env} {x : Operand} (h : ∀ t, x = .tmp t → e t = e2 t) : opd e x = opd e2 x := by
  cases x <;> first | exact h _ rfl | rfl

theorem mem_opTmps {o : Op} {t : Nat} (h : Operand.tmp t ∈ o.operands) : t ∈ opTmps o := by
  unfold opTmps
  exact List.mem_filterMap.2 ⟨.tmp t, by simpa using h, rfl⟩

theorem aop_congr {pol : Nat → Nat} {cf : CallF} {o : Oper} {e e2 : Env} {H : Hp} (h : ∀ t ∈ opTmps o.op, e t = e2 t) : aop P pol cf o e H = aop P pol cf o e2 H := by
  obtain ⟨dst, op, ty, pos, after, guard⟩ := o
  have hx : ∀ x ∈ op.operands, opd e x = opd e2 x := fun x hm => opd_congr fun t ht => h t (mem_opTmps (ht ▸ hm))
  have parts : ∀ ps : Array (Nat × Operand), (∀ x ∈ (ps.toList.map (·.2)).toArray, opd e x = opd e2 x) → aparts e ps = aparts e2 ps := by
    intro ps hp
    unfold aparts
    refine List.map_congr_left fun p hm => ?_
    obtain ⟨i, x⟩ := p
    simp only [Prod.mk.injEq, true_and]
    exact hp x (by simp only [List.mem_toArray, List.mem_map]; exact ⟨(i, x), hm, rfl⟩)
  have args : ∀ as : Array Operand, (∀ x ∈ as, opd e x = opd e2 x) → as.toList.map (opd e) = as.toList.map (opd e2) := fun as hp => List.map_congr_left fun x hm => hp x (by simpa using hm)
  unfold aop
  cases op <;> simp only [Op.operands] at hx <;> try rfl
  case build t ps => simp only [parts ps hx]
  case buildSlice t n ps => simp only [parts ps hx]
  case makeFunc fn first cap =>
    cases fn <;> try rfl
    simp only [args cap (fun x hm => hx x (by simp [hm]))]
  case slice t x lo hi mx =>
    have h0 := hx x (by simp)
    have hb : ∀ (b : Option Operand) d, (∀ y, b = some y → opd e y = opd e2 y) → bound e d b = bound e2 d b := by
      intro b d hb
      cases b with
      | none => rfl
      | some y => simp only [bound, hb y rfl]
    have hlo : ∀ d, bound e d lo = bound e2 d lo := fun d => hb lo d fun y hy => hx y (by subst hy; simp)
    have hhi : ∀ d, bound e d hi = bound e2 d hi := fun d => hb hi d fun y hy => hx y (by subst hy; simp)
    have hmx : ∀ d, bound e d mx = bound e2 d mx := fun d => hb mx d fun y hy => hx y (by subst hy; simp)
    simp only [h0]
    unfold aslice
    simp only [hlo, hhi, hmx]
    cases mx with
    | none => rfl
    | some y => simp only [hmx]
  case call c =>
    obtain ⟨callee, as, ats⟩ := c
    have ha := args as fun x hm => hx x (by simp [Call.operands, hm])
    cases callee with
    | value f =>
      have hf := hx f (by simp [Call.operands])
      simp only [hf, ha]
    | invoke r m => rfl
    | builtin b => simp only [ha]
  all_goals (simp only [List.mem_toArray, List.mem_cons, List.mem_singleton, List.not_mem_nil, or_false, forall_eq_or_imp, forall_eq] at hx; simp only [hx])

theorem stepV_congr {pol : Nat → Nat} {cf : CallF} {ops : Array Oper} {o : Oper} {e e2 : Env} {H : Hp} (h : ∀ t ∈ looks ops o, e t = e2 t) : stepV P pol cf ops o e H = stepV P pol cf ops o e2 H := by
  have hw : awanted ops o e = awanted ops o e2 := by
    unfold awanted
    cases hg : o.guard with
    | none => rfl
    | some p =>
      obtain ⟨j, want⟩ := p
      simp only
      cases ht : (ops[j]?).bind (·.dst) with
      | none => rfl
      | some t => simp only [h t (by simp [looks, hg, ht])]
  unfold stepV
  rw [hw, aop_congr fun t ht => h t (by simp [looks, ht])]

/-- A call that is none of an own block's leaves the heap. -/
def CfPure (cfg : Cfg) (cf : CallF) : Prop := ∀ p f as H v H', cfg.raw f = false → p ≠ 1 → cf p f as H = some (v, H') → H' = H

theorem aop_kind {cfg : Cfg} {fid : Nat} {cf : CallF} (hcf : CfPure cfg cf) {o : Oper} {e : Env} {H H' : Hp} {v : AV} (hk : opKind cfg fid o < 2) (h : aop P (cfg.pol fid) cf o e H = some (v, H')) : H' = H := by
  obtain ⟨dst, op, ty, pos, after, guard⟩ := o
  have hm : ∀ (x : Option AV), x.map (fun y => (y, H)) = some (v, H') → H' = H := by
    intro x hx; obtain ⟨y, -, hy⟩ := Option.map_eq_some_iff.1 hx; simp only [Prod.mk.injEq] at hy; exact hy.2.symm
  unfold aop at h
  unfold opKind at hk
  cases op <;> simp only [Op.kind] at hk h <;> (try (simp at h; done)) <;> (try (exact absurd hk (by omega)))
  case move x => simp only [Option.some.injEq, Prod.mk.injEq] at h; exact h.2.symm
  case assign x => simp only [Option.some.injEq, Prod.mk.injEq] at h; exact h.2.symm
  case pick c a b => split at h <;> simp only [Option.some.injEq, Prod.mk.injEq, reduceCtorEq] at h; exact h.2.symm
  case build t ps => exact hm _ h
  case buildSlice t n ps =>
    obtain ⟨⟨cs, sz⟩, -, h⟩ := Option.bind_eq_some_iff.1 h
    split at h
    · simp at h
    · split at h
      · rename_i hp; simp [hp] at hk
      · simp only [Option.some.injEq, Prod.mk.injEq] at h; exact h.2.symm
  case load t a => exact hm _ h
  case nilCheck x => split at h <;> simp only [Option.some.injEq, Prod.mk.injEq, reduceCtorEq] at h <;> exact h.2.symm
  case binOp op t x y yt =>
    split at h
    · exact hm _ h
    split at h
    · obtain ⟨q, -, hy⟩ := Option.map_eq_some_iff.1 h; simp only [Prod.mk.injEq] at hy; exact hy.2.symm
    · exact hm _ h
  case unOp => exact hm _ h
  case makeInterface => exact hm _ h
  case convert => exact hm _ h
  case makeFunc fn first cap =>
    cases fn <;> simp only [reduceCtorEq, Option.ite_none_right_eq_some, Option.some.injEq, Prod.mk.injEq] at h
    exact h.2.2.symm
  case slice => exact hm _ h
  case fieldAddr => exact hm _ h
  case field => exact hm _ h
  case indexAddr => exact hm _ h
  case index => exact hm _ h
  case extract => exact hm _ h
  case call c =>
    obtain ⟨callee, as, ats⟩ := c
    cases callee with
    | invoke r m => simp at h
    | builtin b =>
      simp only at h hk
      unfold builtinOp at h
      cases b <;> first | (exfalso; simp at hk; done) | exact hm _ h
    | value f =>
      simp only at h hk
      split at h
      · rename_i g caps hg
        cases f with
        | func f =>
          simp only [opd, AV.fn.injEq] at hg
          obtain ⟨rfl, rfl⟩ := hg
          simp only [calleeRaw] at hk
          refine hcf _ _ _ _ _ _ ?_ ?_ h
          · cases hr : cfg.raw f with
            | false => rfl
            | true => simp [hr] at hk
          · intro hp; simp only [hp, beq_self_eq_true, if_true] at hk; split at hk <;> simp at hk
        | tmp t => simp [calleeRaw] at hk
        | const y => simp [calleeRaw] at hk
        | global q => simp [calleeRaw] at hk
      · simp at h

theorem aop_kind0 {cfg : Cfg} {fid : Nat} {cf : CallF} {o : Oper} {e : Env} {H H' : Hp} {v : AV} (hk : opKind cfg fid o = 0) (h : aop P (cfg.pol fid) cf o e H = some (v, H')) (H2 : Hp) : aop P (cfg.pol fid) cf o e H2 = some (v, H2) := by
  obtain ⟨dst, op, ty, pos, after, guard⟩ := o
  have hm : ∀ (x : Option AV), x.map (fun y => (y, H)) = some (v, H') → x.map (fun y => (y, H2)) = some (v, H2) := by
    intro x hx; obtain ⟨y, rfl, hy⟩ := Option.map_eq_some_iff.1 hx; simp only [Prod.mk.injEq] at hy; rw [hy.1]; rfl
  unfold aop at h ⊢
  unfold opKind at hk
  cases op <;> simp only [Op.kind] at hk h ⊢ <;> (try (simp at h; done)) <;> (try (simp at hk; done))
  case move x => simp only [Option.some.injEq, Prod.mk.injEq] at h; rw [h.1]
  case assign x => simp only [Option.some.injEq, Prod.mk.injEq] at h; rw [h.1]
  case pick c a b =>
    split at h
    · simp only [Option.some.injEq, Prod.mk.injEq] at h; rw [h.1]
    · simp at h
  case build t ps => exact hm _ h
  case buildSlice t n ps =>
    obtain ⟨⟨cs, sz⟩, hb, h⟩ := Option.bind_eq_some_iff.1 h
    refine Option.bind_eq_some_iff.2 ⟨(cs, sz), hb, ?_⟩
    simp only at h ⊢
    split at h
    · simp at h
    · rename_i hne
      rw [if_neg hne]
      split at h
      · rename_i hp; simp [hp] at hk
      · rename_i hp
        rw [if_neg hp]
        simp only [Option.some.injEq, Prod.mk.injEq] at h; rw [h.1]
  case nilCheck x => split at h <;> simp only [Option.some.injEq, Prod.mk.injEq, reduceCtorEq] at h <;> rw [h.1]
  case binOp op t x y yt =>
    split at h
    · rename_i hy; rw [if_pos hy]; exact hm _ h
    rename_i hy; rw [if_neg hy]
    split at h
    · obtain ⟨q, hq, hy⟩ := Option.map_eq_some_iff.1 h; simp only [Prod.mk.injEq] at hy; rw [hq]; simp only [Option.map_some]; rw [hy.1]
    · exact hm _ h
  case unOp => exact hm _ h
  case makeInterface => exact hm _ h
  case makeFunc fn first cap =>
    cases fn <;> simp only [reduceCtorEq, Option.ite_none_right_eq_some, Option.some.injEq, Prod.mk.injEq] at h ⊢
    exact ⟨h.1, h.2.1, trivial⟩
  case fieldAddr => exact hm _ h
  case field => exact hm _ h
  case index => exact hm _ h
  case extract => exact hm _ h
  case call c =>
    obtain ⟨callee, as, ats⟩ := c
    cases callee with
    | invoke r m => simp at h
    | builtin b =>
      simp only at h hk ⊢
      unfold builtinOp at h ⊢
      cases b <;> (try (simp at hk; done)) <;> exact hm _ h
    | value f =>
      simp only at hk
      split at hk
      · simp at hk
      · split at hk <;> simp at hk

/-- All that there was is there as it was. -/
def HExt (H H' : Hp) : Prop := ∀ b cs, H.h b = some cs → H'.h b = some cs
theorem HExt.refl (H : Hp) : HExt H H := fun _ _ h => h
theorem HExt.trans {H H' H2 : Hp} (h : HExt H H') (k : HExt H' H2) : HExt H H2 := fun b cs e => k b cs (h b cs e)
theorem HExt.new {H : Hp} (hw : ∀ b cs, H.h b = some cs → b < H.g) (cs : List AV) : HExt H (H.new cs) := fun b c h => by
  have := hw b c h
  rw [Hp.new_h, if_neg (by omega)]; exact h
theorem mapM_ext {f g : AV → Option AV} (h : ∀ x y, f x = some y → g x = some y) : ∀ (l r : List AV), l.mapM f = some r → l.mapM g = some r := by
  intro l
  induction l with
  | nil => intro r h; simpa using h
  | cons a l ih =>
    intro r hr
    simp only [List.mapM_cons, Option.bind_eq_bind, Option.bind_eq_some_iff, Option.pure_def, Option.some.injEq] at hr ⊢
    obtain ⟨b, hb, bs, hbs, rfl⟩ := hr
    exact ⟨b, h _ _ hb, bs, ih _ hbs, rfl⟩
theorem mapM_ext2 {f g : List AV → Option (List AV)} (h : ∀ x y, f x = some y → g x = some y) : ∀ (l r : List (List AV)), l.mapM f = some r → l.mapM g = some r := by
  intro l
  induction l with
  | nil => intro r h; simpa using h
  | cons a l ih =>
    intro r hr
    simp only [List.mapM_cons, Option.bind_eq_bind, Option.bind_eq_some_iff, Option.pure_def, Option.some.injEq] at hr ⊢
    obtain ⟨b, hb, bs, hbs, rfl⟩ := hr
    exact ⟨b, h _ _ hb, bs, ih _ hbs, rfl⟩
theorem deep_ext {H H' : Hp} (he : HExt H H') : ∀ d x y, deep H d x = some y → deep H' d x = some y := by
  intro d
  induction d with
  | zero => intro x y h; simp [deep] at h
  | succ d ih =>
    intro x y h
    cases x with
    | any => simp [deep] at h
    | ifc b => exact h
    | v z =>
      by_cases hz : z = .slice none 0 0
      · subst hz; exact h
      · have key : ∀ H, deep H (d + 1) (.v z) = some (.v z) := fun H => by
          unfold deep
          split
          · rename_i hq; simp only [AV.v.injEq] at hq; exact absurd hq hz
          · rename_i hq; simp only [AV.v.injEq] at hq; subst hq; rfl
          all_goals (rename_i hq; simp at hq)
        rw [key] at h ⊢; exact h
    | lst fu xs =>
      simp only [deep] at h ⊢
      obtain ⟨r, h1, rfl⟩ := Option.map_eq_some_iff.1 h
      rw [mapM_ext2 (fun c r hc => mapM_ext ih c r hc) xs r h1]; rfl
    | fp cs o =>
      simp only [deep] at h ⊢
      obtain ⟨r, h1, rfl⟩ := Option.map_eq_some_iff.1 h
      rw [mapM_ext ih cs r h1]; rfl
    | sl b sz o n =>
      simp only [deep] at h ⊢
      obtain ⟨cs, h1, h⟩ := Option.bind_eq_some_iff.1 h
      rw [he b cs h1]
      simp only [Option.bind_some]
      split at h
      · rename_i hc
        rw [if_pos hc]
        obtain ⟨r, h2, rfl⟩ := Option.map_eq_some_iff.1 h
        rw [mapM_ext ih _ r h2]; rfl
      · simp at h
    | ptr b o =>
      simp only [deep] at h ⊢
      obtain ⟨cs, h1, h⟩ := Option.bind_eq_some_iff.1 h
      obtain ⟨r, h2, rfl⟩ := Option.map_eq_some_iff.1 h
      rw [he b cs h1]
      simp only [Option.bind_some]
      rw [mapM_ext ih _ r h2]; rfl
    | agg cs =>
      simp only [deep] at h ⊢
      obtain ⟨r, h1, rfl⟩ := Option.map_eq_some_iff.1 h
      rw [mapM_ext ih cs r h1]; rfl
    | tup cs =>
      simp only [deep] at h ⊢
      obtain ⟨r, h1, rfl⟩ := Option.map_eq_some_iff.1 h
      rw [mapM_ext ih cs r h1]; rfl
    | fn f cs =>
      simp only [deep] at h ⊢
      obtain ⟨r, h1, rfl⟩ := Option.map_eq_some_iff.1 h
      rw [mapM_ext ih cs r h1]; rfl
/-- A call that is none of an own block's tells the same where more blocks are; one of an own block's leaves what there is. -/
def WfH (H : Hp) : Prop := ∀ b cs, H.h b = some cs → b < H.g
structure CfExt (cfg : Cfg) (cf : CallF) : Prop where
  old : ∀ p f as H v H' H2, cfg.raw f = false → p ≠ 1 → cf p f as H = some (v, H') → HExt H H2 → cf p f as H2 = some (v, H2)
  own : ∀ f as H v H', cfg.raw f = false → WfH H → cf 1 f as H = some (v, H') → HExt H H'
theorem bind_ext {α : Type} {H H2 : Hp} (he : HExt H H2) {b : Nat} {k : List AV → Option α} {r : α} (h : (H.h b).bind k = some r) : (H2.h b).bind k = some r := by
  obtain ⟨cs, h1, h2⟩ := Option.bind_eq_some_iff.1 h
  rw [he b cs h1]; exact h2
theorem aload_ext {H H2 : Hp} (he : HExt H H2) {t : TypeId} {a v : AV} (h : aload P H t a = some v) : aload P H2 t a = some v := by
  unfold aload at h ⊢
  split at h
  · exact bind_ext he h
  · exact h
  · simp at h
theorem aconv_ext {H H2 : Hp} (he : HExt H H2) {s d : TypeId} {x v : AV} (h : aconv P H s d x = some v) : aconv P H2 s d x = some v := by
  unfold aconv at h ⊢
  split at h <;> first | exact h | skip
  · split at h <;> first | exact h | skip
    split at h <;> first | exact h | skip
    exact bind_ext he h
theorem aslice_ext {H H2 : Hp} (he : HExt H H2) {e : Env} {t : TypeId} {x v : AV} {lo hi mx : Option Operand} (h : aslice P H e t x lo hi mx = some v) : aslice P H2 e t x lo hi mx = some v := by
  unfold aslice at h ⊢
  split at h <;> first | exact h | skip
  · split at h
    · rename_i hc
      rw [if_pos hc]; exact bind_ext he h
    · simp at h
  · split at h
    · rename_i hc
      rw [if_pos hc]
      obtain ⟨sz, h1, h⟩ := Option.bind_eq_some_iff.1 h
      exact Option.bind_eq_some_iff.2 ⟨sz, h1, bind_ext he h⟩
    · simp at h
theorem aindexAddr_ext {H H2 : Hp} (he : HExt H H2) {t : TypeId} {x i v : AV} (h : aindexAddr P H t x i = some v) : aindexAddr P H2 t x i = some v := by
  unfold aindexAddr at h ⊢
  obtain ⟨n, hn, h⟩ := Option.bind_eq_some_iff.1 h
  refine Option.bind_eq_some_iff.2 ⟨n, hn, ?_⟩
  split at h <;> first | exact h | skip
  split at h
  · rename_i hc
    obtain ⟨cs, hcs⟩ := Option.isSome_iff_exists.1 hc.2.2
    rw [if_pos ⟨hc.1, hc.2.1, by rw [he _ _ hcs]; rfl⟩]; exact h
  · simp at h
theorem aop_ext {cfg : Cfg} {fid : Nat} {cf : CallF} (hcf : CfExt cfg cf) {o : Oper} {e : Env} {H H' H2 : Hp} {v : AV} (hk : opKind cfg fid o = 1) (h : aop P (cfg.pol fid) cf o e H = some (v, H')) (he : HExt H H2) : aop P (cfg.pol fid) cf o e H2 = some (v, H2) := by
  obtain ⟨dst, op, ty, pos, after, guard⟩ := o
  unfold aop at h ⊢
  unfold opKind at hk
  cases op <;> simp only [Op.kind] at hk h ⊢ <;> (try (simp at hk; done))
  case buildSlice t n ps => split at hk <;> simp at hk
  case load t a =>
    obtain ⟨y, hy, hq⟩ := Option.map_eq_some_iff.1 h; simp only [Prod.mk.injEq] at hq
    rw [aload_ext he hy, ← hq.1]; rfl
  case convert s d x =>
    obtain ⟨y, hy, hq⟩ := Option.map_eq_some_iff.1 h; simp only [Prod.mk.injEq] at hq
    rw [aconv_ext he hy, ← hq.1]; rfl
  case slice t x lo hi mx =>
    obtain ⟨y, hy, hq⟩ := Option.map_eq_some_iff.1 h; simp only [Prod.mk.injEq] at hq
    rw [aslice_ext he hy, ← hq.1]; rfl
  case indexAddr t x i =>
    obtain ⟨y, hy, hq⟩ := Option.map_eq_some_iff.1 h; simp only [Prod.mk.injEq] at hq
    rw [aindexAddr_ext he hy, ← hq.1]; rfl
  case call c =>
    obtain ⟨callee, as, ats⟩ := c
    cases callee with
    | invoke r m => simp at h
    | builtin b =>
      simp only at hk
      cases b <;> simp at hk
    | value f =>
      simp only at h hk ⊢
      split at h
      · rename_i g caps hg
        cases f with
        | func f =>
          simp only [opd, AV.fn.injEq] at hg
          obtain ⟨rfl, rfl⟩ := hg
          simp only [calleeRaw] at hk
          refine hcf.old _ _ _ _ _ _ _ ?_ ?_ h he
          · cases hr : cfg.raw f with
            | false => rfl
            | true => simp [hr] at hk
          · intro hp; simp only [hp, beq_self_eq_true, if_true] at hk; split at hk <;> simp at hk
        | tmp t => simp [calleeRaw] at hk
        | const y => simp [calleeRaw] at hk
        | global q => simp [calleeRaw] at hk
      · simp at h
theorem aop_new {cfg : Cfg} {fid : Nat} {cf : CallF} (hcf : CfExt cfg cf) {o : Oper} {e : Env} {H H' : Hp} {v : AV} (hw : WfH H) (hk : opKind cfg fid o = 3) (h : aop P (cfg.pol fid) cf o e H = some (v, H')) : HExt H H' := by
  obtain ⟨dst, op, ty, pos, after, guard⟩ := o
  unfold aop at h
  unfold opKind at hk
  cases op <;> simp only [Op.kind] at hk h <;> (try (simp at hk; done))
  case alloc t =>
    obtain ⟨z, -, hq⟩ := Option.map_eq_some_iff.1 h; simp only [Prod.mk.injEq] at hq
    rw [← hq.2]; exact HExt.new hw z
  case buildSlice t n ps => split at hk <;> simp at hk
  case call c =>
    obtain ⟨callee, as, ats⟩ := c
    cases callee with
    | invoke r m => simp at h
    | builtin b => simp only at hk; cases b <;> simp at hk
    | value f =>
      simp only at h hk
      split at h
      · rename_i g caps hg
        cases f with
        | func f =>
          simp only [opd, AV.fn.injEq] at hg
          obtain ⟨rfl, rfl⟩ := hg
          simp only [calleeRaw] at hk
          have hr : cfg.raw f = false := by
            cases hr : cfg.raw f with
            | false => rfl
            | true => simp [hr] at hk
          have hp : cfg.pol fid (dst.getD 0) = 1 := by
            cases hp : (cfg.pol fid (dst.getD 0) == 1) with
            | true => simpa using hp
            | false => simp [hr, hp] at hk
          rw [hp] at h
          exact hcf.own _ _ _ _ _ hr hw h
        | tmp t => simp [calleeRaw] at hk
        | const y => simp [calleeRaw] at hk
        | global q => simp [calleeRaw] at hk
      · simp at h
theorem opKind_le {cfg : Cfg} {fid : Nat} {o : Oper} : opKind cfg fid o ≤ 3 := by
  unfold opKind
  cases o.op <;> simp only [Op.kind] <;> first | omega | skip
  case buildSlice => split <;> omega
  case call c =>
    cases c.callee with
    | invoke r m => simp only; split <;> (try split) <;> omega
    | builtin b => cases b <;> simp
    | value f => simp only; split <;> (try split) <;> omega
theorem stepV_ext {cfg : Cfg} {fid : Nat} {cf : CallF} (hcf : CfExt cfg cf) {ops : Array Oper} {o : Oper} {e : Env} {H H' H2 : Hp} {v : AV} (hk : opKind cfg fid o = 1) (h : stepV P (cfg.pol fid) cf ops o e H = some (v, H')) (he : HExt H H2) : stepV P (cfg.pol fid) cf ops o e H2 = some (v, H2) := by
  unfold stepV at h ⊢
  obtain ⟨b, hb, h⟩ := Option.bind_eq_some_iff.1 h
  rw [hb]
  cases b with
  | true => exact aop_ext hcf hk h he
  | false => simp at h; simp [h.1]
theorem stepV_new {cfg : Cfg} {fid : Nat} {cf : CallF} (hcf : CfExt cfg cf) {ops : Array Oper} {o : Oper} {e : Env} {H H' : Hp} {v : AV} (hw : ∀ b cs, H.h b = some cs → b < H.g) (hk : opKind cfg fid o = 3) (h : stepV P (cfg.pol fid) cf ops o e H = some (v, H')) : HExt H H' := by
  unfold stepV at h
  obtain ⟨b, -, h⟩ := Option.bind_eq_some_iff.1 h
  cases b with
  | true => exact aop_new hcf hw hk h
  | false => simp at h; rw [← h.2]; exact HExt.refl _
theorem stepV_kind {cfg : Cfg} {fid : Nat} {cf : CallF} (hcf : CfPure cfg cf) {ops : Array Oper} {o : Oper} {e : Env} {H H' : Hp} {v : AV} (hk : opKind cfg fid o < 2) (h : stepV P (cfg.pol fid) cf ops o e H = some (v, H')) : H' = H := by
  unfold stepV at h
  obtain ⟨b, -, h⟩ := Option.bind_eq_some_iff.1 h
  cases b with
  | true => exact aop_kind hcf hk h
  | false => simp at h; exact h.2.symm
theorem stepV_kind0 {cfg : Cfg} {fid : Nat} {cf : CallF} {ops : Array Oper} {o : Oper} {e : Env} {H H' : Hp} {v : AV} (hk : opKind cfg fid o = 0) (h : stepV P (cfg.pol fid) cf ops o e H = some (v, H')) (H2 : Hp) : stepV P (cfg.pol fid) cf ops o e H2 = some (v, H2) := by
  unfold stepV at h ⊢
  obtain ⟨b, hb, h⟩ := Option.bind_eq_some_iff.1 h
  rw [hb]
  cases b with
  | true => exact aop_kind0 hk h H2
  | false => simp at h; simp [h.1]
end
end Go.Proofs.YtnejoidfbgklbaaGreatDoor.Eng
