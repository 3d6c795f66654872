/- The engine, part 6: comparisons, conversions, addresses, slices of slices. -/
import Derived.Test.YtnejoidfbgklbaaGreatDoorE5
namespace Go.Proofs.YtnejoidfbgklbaaGreatDoor.Eng
open Go Go.RowKit
set_option linter.unusedSimpArgs false
set_option linter.unusedVariables false

section
variable {P : Program} {base : Nat} {H : Hp} {ρ : Nat → Loc} {F : Nat → Nat → Prop} {w : World}

theorem guard_key {w : World} (c : Bool) (g : Sem Unit) (h : g.run P w = .ok () w) : (if c = true then (Pure.pure () : Sem Unit) else g).run P w = .ok () w := by
  cases c
  · exact h
  · rfl

theorem eqGuard_scalar (op : BinOp) (t : TypeId) (xo yo : Operand) {a b : Value} (h1 : ¬ (a = .nilIface ∧ b = .nilIface)) (h2 : ∀ xs ys, ¬ (a = .agg xs ∧ b = .agg ys)) (w : World) : (eqGuard op t xo yo a b).run P w = .ok () w := by
  unfold eqGuard
  refine guard_key _ _ ?_
  cases a <;> cases b <;> first | exact absurd ⟨rfl, rfl⟩ h1 | exact absurd ⟨rfl, rfl⟩ (h2 _ _) | rfl

theorem VR.eqv {x y : Value} (h : VR H ρ F w (.v x) y) : y = x := by cases h; rfl

theorem abinV_ok {op : BinOp} {t : TypeId} {a b u : Value} (h : abinV op a b = some u) (w : World) : (binOp op t a b).run P w = .ok u w := by
  unfold abinV at h
  split at h
  · rename_i k a k' b
    cases op <;> simp only [Option.ite_none_right_eq_some, Option.ite_none_left_eq_some, Option.some.injEq, reduceCtorEq, and_false] at h
    case shl => obtain ⟨h0, rfl⟩ := h; simp [binOp, Op.shift, show ¬ b < 0 by omega]
    case shr => obtain ⟨h0, rfl⟩ := h; simp [binOp, Op.shift, show ¬ b < 0 by omega]
    case quo => obtain ⟨rfl, h0, rfl⟩ := h; simp [binOp, Op.intDiv, h0]
    case rem => obtain ⟨rfl, h0, rfl⟩ := h; simp [binOp, Op.intDiv, h0]
    all_goals
      obtain ⟨rfl, rfl⟩ := h
      first | rfl | (simp [binOp, Op.intArith, Op.intBits, Op.intCmp]; done) | (simp [binOp, Op.intArith, Op.intBits, Op.intCmp]; rfl)
  · rename_i a b
    cases op <;> simp only [Option.ite_none_right_eq_some, Option.some.injEq, reduceCtorEq] at h
    case add =>
      obtain ⟨h0, rfl⟩ := h
      have : ¬ (((a.size + b.size : Nat) : Int) > IntKind.i64.max) := by
        have : IntKind.i64.max = 9223372036854775807 := by rfl
        omega
      simp only [binOp, Op.stringOp, this, if_false, Sem.run_pure]
    all_goals
      subst h
      simp [binOp, Op.stringOp]
  · simp at h

theorem exactAll_ok {xs : List AV} {vs : List Value} (h : exactAll xs = some vs) : xs = vs.map .v := by
  induction xs generalizing vs with
  | nil => simp [exactAll] at h; subst h; rfl
  | cons x xs ih =>
    cases x <;> simp only [exactAll] at h <;> try (simp at h; done)
    obtain ⟨r, hr, rfl⟩ := Option.map_eq_some_iff.1 h
    rw [ih hr]; rfl

theorem agg_exact {vs : List Value} {y : Value} (h : VR H ρ F w (.agg (vs.map .v)) y) : y = .agg vs.toArray := by
  cases h with
  | agg hl hv =>
    rename_i ys
    congr 1
    apply Array.ext'
    simp only [List.length_map] at hl
    apply List.ext_getElem?
    intro i
    by_cases hi : i < vs.length
    · have := hv i (.v vs[i]) (ys[i]'(by omega)) (by simp [hi]) (by simp [show i < ys.size by omega])
      have e := this.eqv
      simp [hi, show i < ys.size by omega, e]
    · rw [List.getElem?_eq_none (by simp; omega), List.getElem?_eq_none (by simp; omega)]

theorem kind_run (d : Nat) (t : TypeId) {k : Nat} {x y : Value} {b : Bool} (hk : kindCode P t = some k) (h : eqK k x y = some b) (w : World) : (Op.equalIn (d + 1) t x y).run P w = .ok b w := by
  unfold kindCode at hk
  split at hk <;> simp only [Option.some.injEq, reduceCtorEq] at hk <;> subst hk
  · rename_i k' hu
    unfold eqK at h
    split at h <;> simp only [Option.ite_none_right_eq_some, Option.some.injEq, reduceCtorEq] at h
    · rename_i k1 a k2 b _ _ _
      obtain ⟨rfl, rfl⟩ := h
      rw [run_equalIn_int (h := hu)]; rfl
    all_goals omega
  · rename_i hu
    unfold eqK at h
    split at h <;> simp only [Option.ite_none_right_eq_some, Option.some.injEq, reduceCtorEq] at h
    · omega
    · subst h; rw [run_equalIn_bool' (h := hu)]
    · omega
  · rename_i hu
    unfold eqK at h
    split at h <;> simp only [Option.ite_none_right_eq_some, Option.some.injEq, reduceCtorEq] at h
    · omega
    · omega
    · subst h; rw [run_equalIn_string (h := hu)]

theorem kind_agg {t : TypeId} {k : Nat} (hk : kindCode P t = some k) : aggT P t = some false := by
  unfold kindCode at hk
  unfold aggT
  split at hk <;> simp only [Option.some.injEq, reduceCtorEq] at hk <;> simp [*, aggD]

theorem part_one {t : TypeId} {cs : Array Value} {o : Nat} {v : Value} (ht : aggT P t = some false) (h : cs[o]? = some v) (w : World) : (part t cs o).run P w = .ok v w := by
  simp [part, run_isAgg ht, h]

theorem eqBy_ok (d : Nat) (xs ys : List Value) : ∀ (fs : List Field) (pl : List (Nat × Nat)) (b : Bool), fs.mapM (fun f => if f.name = "_" then none else (kindCode P f.type).map (f.offset, ·)) = some pl → eqBy pl xs ys = some b → ∀ w, (Op.eqFields (d + 1) xs.toArray ys.toArray fs).run P w = .ok b w := by
  intro fs
  induction fs with
  | nil => intro pl b h1 h2 w; simp at h1; subst h1; simp [eqBy] at h2; subst h2; simp [Op.eqFields]
  | cons f fs ih =>
    intro pl b h1 h2 w
    simp only [List.mapM_cons, Option.bind_eq_bind, Option.bind_eq_some_iff, Option.pure_def, Option.some.injEq] at h1
    obtain ⟨p, hp, r, hr, rfl⟩ := h1
    split at hp
    · simp at hp
    rename_i hname
    obtain ⟨k, hk, rfl⟩ := Option.map_eq_some_iff.1 hp
    simp only [eqBy] at h2
    obtain ⟨x, hx, h2⟩ := Option.bind_eq_some_iff.1 h2
    obtain ⟨y, hy, h2⟩ := Option.bind_eq_some_iff.1 h2
    obtain ⟨b1, hb1, h2⟩ := Option.bind_eq_some_iff.1 h2
    obtain ⟨b2, hb2, rfl⟩ := Option.map_eq_some_iff.1 h2
    have hag := kind_agg hk
    simp only [Op.eqFields]
    rw [if_pos hname]
    simp only [Sem.run_bind, part_one (P := P) hag (cs := xs.toArray) (by simpa using hx), part_one (P := P) hag (cs := ys.toArray) (by simpa using hy), Result.andThen_ok, kind_run d f.type hk hb1]
    cases b1 with
    | true => simp only [Bool.not_true, Bool.false_eq_true, if_false, Bool.true_and]; exact ih r b2 hr hb2 w
    | false => simp

theorem plan_spec {t : TypeId} {pl : List (Nat × Nat)} (h : planOf P t = some pl) : P.underlying t = some (.struct (P.fieldsOf t)) ∧ P.stoodInHeld t = false ∧ P.eqGuardType P.depth t = false ∧
    (P.fieldsOf t).toList.mapM (fun f => if f.name = "_" then none else (kindCode P f.type).map (f.offset, ·)) = some pl := by
  unfold planOf at h
  split at h
  · rename_i fs hu
    split at h
    · rename_i hc
      have hf : P.fieldsOf t = fs := by unfold Program.fieldsOf; rw [hu]
      rw [hf]; exact ⟨hu, hc.1, hc.2, h⟩
    · simp at h
  · simp at h

theorem bin_ok {op : BinOp} {t : TypeId} {xo yo : Operand} {x y v : AV} {a b : Value} (hx : VR H ρ F w x a) (hy : VR H ρ F w y b) (h : abin P op t x y = some v) :
    ∃ u, ((do eqGuard op t xo yo a b; binOp op t a b) : Sem Value).run P w = .ok u w ∧ VR H ρ F w v u := by
  unfold abin at h
  split at h
  · rename_i p q
    cases hx; cases hy
    have hg := eqGuard_scalar (P := P) op t xo yo (a := .bool p) (b := .bool q) (by simp) (by simp) w
    split at h
    · rename_i hu
      simp only [Option.some.injEq] at h; subst h
      exact ⟨.bool (p == q), by simp only [Sem.run_bind, hg, Result.andThen_ok]; simp only [binOp, Sem.run_bind, Op.equal, Op.maxDepth, run_equalIn_bool' (h := hu), Result.andThen_ok, Sem.run_pure], .v⟩
    · rename_i hu
      simp only [Option.some.injEq] at h; subst h
      exact ⟨.bool (!(p == q)), by simp only [Sem.run_bind, hg, Result.andThen_ok]; simp only [binOp, Sem.run_bind, Op.equal, Op.maxDepth, run_equalIn_bool' (h := hu), Result.andThen_ok, Sem.run_pure], .v⟩
    · simp at h
  · rename_i xs ys
    obtain ⟨vs, hvs, h⟩ := Option.bind_eq_some_iff.1 h
    obtain ⟨us, hus, h⟩ := Option.bind_eq_some_iff.1 h
    obtain ⟨pl, hpl, h⟩ := Option.bind_eq_some_iff.1 h
    rw [exactAll_ok hvs] at hx
    rw [exactAll_ok hus] at hy
    have ha := agg_exact hx
    have hb := agg_exact hy
    subst ha hb
    obtain ⟨s1, s2, s3, s4⟩ := plan_spec hpl
    have hg : (eqGuard op t xo yo (.agg vs.toArray) (.agg us.toArray)).run P w = .ok () w := by
      unfold eqGuard
      refine guard_key _ _ ?_
      simp [s3]
    have heq : ∀ r, eqBy pl vs us = some r → (Op.equal t (.agg vs.toArray) (.agg us.toArray)).run P w = .ok r w := by
      intro r hr
      unfold Op.equal Op.maxDepth
      rw [run_equalIn_struct w _ t _ _ s1 s2]
      exact eqBy_ok _ vs us _ pl r s4 hr w
    split at h
    · obtain ⟨r, hr, rfl⟩ := Option.map_eq_some_iff.1 h
      exact ⟨.bool r, by simp only [Sem.run_bind, hg, Result.andThen_ok]; simp only [binOp, Sem.run_bind, heq r hr, Result.andThen_ok, Sem.run_pure], .v⟩
    · obtain ⟨r, hr, rfl⟩ := Option.map_eq_some_iff.1 h
      exact ⟨.bool (!r), by simp only [Sem.run_bind, hg, Result.andThen_ok]; simp only [binOp, Sem.run_bind, heq r hr, Result.andThen_ok, Sem.run_pure], .v⟩
    · simp at h
  · split at h
    · rename_i p q he
      obtain ⟨u, hu, rfl⟩ := Option.map_eq_some_iff.1 h
      unfold exact2 at he
      split at he
      · simp only [Option.some.injEq, Prod.mk.injEq] at he
        obtain ⟨rfl, rfl⟩ := he
        cases hx; cases hy
        have hg := eqGuard_scalar (P := P) op t xo yo (a := a) (b := b) (by rintro ⟨rfl, rfl⟩; simp [abinV] at hu) (by rintro c d ⟨rfl, rfl⟩; simp [abinV] at hu) w
        exact ⟨u, by simp only [Sem.run_bind, hg, Result.andThen_ok]; exact abinV_ok hu w, .v⟩
      · simp at he
    · simp at h

theorem unary_ok {op : UnOp} {x v : AV} {a : Value} (hx : VR H ρ F w x a) (h : aunary op x = some v) : ∃ u, (Op.unary op a).run P w = .ok u w ∧ VR H ρ F w v u := by
  unfold aunary at h
  split at h
  · cases hx; simp at h; subst h; exact ⟨_, rfl, .v⟩
  · rename_i k n; cases hx; simp only [Option.some.injEq] at h; subst h; exact ⟨.int k (k.wrap (0 - n)), rfl, .v⟩
  · simp at h

theorem nat_spec {x : AV} {a : Value} {n : Nat} (hx : VR H ρ F w x a) (h : natOf x = some n) : ∃ k i, a = .int k i ∧ 0 ≤ i ∧ n = i.toNat := by
  unfold natOf at h
  split at h
  · cases hx
    split at h
    · simp at h; exact ⟨_, _, rfl, by assumption, h.symm⟩
    · simp at h
  · simp at h

theorem fieldAddr_ok {s : TypeId} {x v : AV} {a : Value} {f : Nat} (hx : VR H ρ F w x a) (h : afieldAddr P s x f = some v) : ∃ u, (Instr.fieldAt s a f).run P w = .ok u w ∧ VR H ρ F w v u := by
  unfold afieldAddr at h
  obtain ⟨d, hd, h⟩ := Option.bind_eq_some_iff.1 h
  unfold fieldOff at hd
  obtain ⟨fd, hf, hd⟩ := Option.bind_eq_some_iff.1 hd
  obtain ⟨n, hn, hd⟩ := Option.bind_eq_some_iff.1 hd
  split at hd
  · simp at hd
  rename_i hn0
  simp at hd; subst hd
  unfold fieldOf? at hf
  split at hf
  case h_2 => simp at hf
  rename_i fs hu
  have hrun : ∀ ad : Addr, (Instr.fieldAt s (.pointer (some ad)) f).run P w = .ok (.pointer (some (ad.add fd.offset))) w := by
    intro ad
    simp [Instr.fieldAt, run_und hu, hf, Instr.sureAddr, fieldPlace, run_sz hn, hn0]
  split at h
  · simp at h; subst h
    cases hx with
    | ptr hb hl =>
      rename_i b o ad
      refine ⟨_, hrun ad, .ptr hb fun cs hc => ?_⟩
      rw [hl cs hc, add_at, Nat.add_assoc]
  · simp at h; subst h
    cases hx with
    | fp rd hm hv =>
      rename_i cs o blk off
      refine ⟨_, hrun _, ?_⟩
      rw [add_at, Nat.add_assoc]
      exact .fp rd hm hv
  · simp at h

theorem get2_of {xs : List (List AV)} {i j : Nat} {c : List AV} {x : AV} (h : xs[i]? = some c) (h2 : c[j]? = some x) : get2 xs i j = some x := by
  simp [get2, h, h2]

theorem indexAddr_ok (I : Inv base H ρ F w) {t : TypeId} {x i v : AV} {a b : Value} (hx : VR H ρ F w x a) (hi : VR H ρ F w i b) (h : aindexAddr P H t x i = some v) :
    ∃ u, (Instr.indexAt t a b).run P w = .ok u w ∧ VR H ρ F w v u := by
  unfold aindexAddr at h
  obtain ⟨n, hn, h⟩ := Option.bind_eq_some_iff.1 h
  obtain ⟨k, z, rfl, hz, rfl⟩ := nat_spec hi hn
  split at h
  · rename_i el b sz o m hu _
    split at h
    case isFalse => simp at h
    rename_i hc
    obtain ⟨h1, h2, h3⟩ := hc
    simp at h; subst h
    obtain ⟨cs, hcs⟩ := Option.isSome_iff_exists.1 h3
    cases hx with
    | sl hb hs hnn =>
      rename_i ad c
      rcases hs cs hcs with ⟨h4, -, -⟩ | ⟨rfl, h5, h6, h7⟩
      · omega
      · refine ⟨.pointer (some ((at_ (ρ b).blk ((ρ b).off + o)).add (z.toNat * sz))), ?_, ?_⟩
        · simp [Instr.indexAt, asIntOf, run_und hu, run_sz h1, hz, show z < (m : Int) by omega]
        · rw [add_at]
          exact .ptr hb fun c' hc' => by rw [Nat.add_assoc]
  · rename_i el fu xs hu _
    obtain ⟨c, hc, h⟩ := Option.bind_eq_some_iff.1 h
    split at h
    case isFalse => simp at h
    rename_i h1
    simp at h; subst h
    have hlt := lt_of_get hc
    cases hx with
    | lst0 => simp at hlt
    | lst rd hne hs hf hcap ho hm hv =>
      rename_i blk off cap sz
      have hsz : c.length = sz := hs c (List.mem_of_getElem? hc)
      refine ⟨.pointer (some ((at_ blk off).add (z.toNat * sz))), ?_, ?_⟩
      · rw [← hsz]
        simp [Instr.indexAt, asIntOf, run_und hu, run_sz h1, hz, show z < (xs.length : Int) by omega]
      · rw [add_at]
        have := VR.fp (H := H) (ρ := ρ) (F := F) (w := w) (cs := c) (o := 0) (blk := blk) (off := off + z.toNat * sz) (fun j => rd z.toNat j)
          (fun j x hj => by have := hm z.toNat j x (get2_of hc hj); rw [Nat.add_assoc]; exact this) (fun j x hj => hv z.toNat j x (get2_of hc hj))
        exact this
  · rename_i m el b o hu _
    obtain ⟨sz, h1, h⟩ := Option.bind_eq_some_iff.1 h
    split at h
    case isFalse => simp at h
    rename_i hlt
    simp at h; subst h
    cases hx with
    | ptr hb hl =>
      rename_i ad
      refine ⟨.pointer (some (ad.add (z.toNat * sz))), ?_, .ptr hb fun cs hc => by rw [hl cs hc, add_at, Nat.add_assoc]⟩
      simp [Instr.indexAt, asIntOf, run_und hu, run_sz h1, hz, show z < (m : Int) by omega, Instr.sureAddr]
  · rename_i m el cs o hu _
    obtain ⟨sz, h1, h⟩ := Option.bind_eq_some_iff.1 h
    split at h
    case isFalse => simp at h
    rename_i hlt
    simp at h; subst h
    cases hx with
    | fp rd hm hv =>
      rename_i blk off
      refine ⟨.pointer (some ((at_ blk (off + o)).add (z.toNat * sz))), ?_, ?_⟩
      · simp [Instr.indexAt, asIntOf, run_und hu, run_sz h1, hz, show z < (m : Int) by omega, Instr.sureAddr]
      · rw [add_at, Nat.add_assoc]; exact .fp rd hm hv
  · simp at h

theorem part_ok {t : TypeId} {cs : List AV} {ys : Array Value} {o : Nat} {v : AV} (hl : cs.length = ys.size) (hv : ∀ (i : Nat) x y, cs[i]? = some x → ys[i]? = some y → VR H ρ F w x y) (h : ldc P t cs o = some v) :
    ∃ u, (part t ys o).run P w = .ok u w ∧ VR H ρ F w v u := by
  unfold ldc at h
  obtain ⟨ag, hag, h⟩ := Option.bind_eq_some_iff.1 h
  cases ag with
  | true =>
    simp only [if_true] at h
    obtain ⟨n, hn, h⟩ := Option.bind_eq_some_iff.1 h
    split at h
    case isFalse => simp at h
    rename_i hle
    simp at h; subst h
    refine ⟨.agg (ys.extract o (o + n)), by simp [part, run_isAgg hag, run_sz hn], .agg (by simp; omega) fun i x y hx hy => ?_⟩
    have hi := lt_of_get hx
    have hin : i < n := by simp at hi; omega
    rw [List.getElem?_take_of_lt hin, List.getElem?_drop] at hx
    rw [Array.getElem?_extract] at hy
    split at hy
    · exact hv (o + i) x y hx hy
    · simp at hy
  | false =>
    simp only [Bool.false_eq_true, if_false] at h
    have hi := lt_of_get h
    exact ⟨ys[o]'(by omega), part_one hag (by simp [show o < ys.size by omega]) w, hv o v _ h (by simp [show o < ys.size by omega])⟩

theorem field_ok {t : TypeId} {x v : AV} {a : Value} {f : Nat} (hx : VR H ρ F w x a) (h : afield P t x f = some v) : ∃ u, (Instr.field t a f).run P w = .ok u w ∧ VR H ρ F w v u := by
  unfold afield at h
  split at h
  · obtain ⟨⟨ft, d⟩, hfd, h⟩ := Option.bind_eq_some_iff.1 h
    obtain ⟨fd, hf, he⟩ := Option.map_eq_some_iff.1 hfd
    simp only [Prod.mk.injEq] at he
    obtain ⟨rfl, rfl⟩ := he
    unfold fieldOf? at hf
    split at hf
    case h_2 => simp at hf
    rename_i fs hu
    cases hx with
    | agg hl hv =>
      obtain ⟨u, h1, h2⟩ := part_ok hl hv h
      exact ⟨u, by simp only [Instr.field, Sem.run_bind, run_und hu, Result.andThen_ok, hf, asAgg, Sem.run_pure]; exact h1, h2⟩
  · simp at h

theorem index_ok {t : TypeId} {x i v : AV} {a b : Value} (hx : VR H ρ F w x a) (hi : VR H ρ F w i b) (h : aindex P t x i = some v) : ∃ u, (Instr.index t a b).run P w = .ok u w ∧ VR H ρ F w v u := by
  unfold aindex at h
  obtain ⟨n, hn, h⟩ := Option.bind_eq_some_iff.1 h
  obtain ⟨k, z, rfl, hz, rfl⟩ := nat_spec hi hn
  split at h
  · rename_i s hu _
    cases hx
    obtain ⟨c, hc, rfl⟩ := Option.map_eq_some_iff.1 h
    have hg : s[z.toNat]? = some c := by
      rw [toList_get] at hc
      exact hc
    exact ⟨.int .u8 c.toNat, by simp [Instr.index, asIntOf, run_und hu, hz, hg], .v⟩
  · rename_i m el cs hu _
    obtain ⟨sz, h1, h⟩ := Option.bind_eq_some_iff.1 h
    split at h
    case isFalse => simp at h
    rename_i hlt
    cases hx with
    | agg hl hv =>
      obtain ⟨u, h3, h4⟩ := part_ok hl hv h
      refine ⟨u, ?_, h4⟩
      simp only [Instr.index, asIntOf, Sem.run_bind, Sem.run_pure, Result.andThen_ok, run_und hu]
      rw [if_pos ⟨hz, by omega⟩]
      simp only [Sem.run_bind, run_sz h1, Result.andThen_ok]
      exact h3
  · simp at h

theorem extract_ok {x v : AV} {a : Value} {i : Nat} (hx : VR H ρ F w x a) (h : aextract x i = some v) : ∃ u, (Instr.extract a i).run P w = .ok u w ∧ VR H ρ F w v u := by
  unfold aextract at h
  split at h
  · cases hx with
    | tup hl hv =>
      rename_i ys
      have hi := lt_of_get h
      have hy : ys[i]? = some (ys[i]'(by omega)) := by simp [show i < ys.size by omega]
      exact ⟨_, by simp only [Instr.extract, hy]; rfl, hv i v _ h hy⟩
  · simp at h

end
end Go.Proofs.YtnejoidfbgklbaaGreatDoor.Eng
