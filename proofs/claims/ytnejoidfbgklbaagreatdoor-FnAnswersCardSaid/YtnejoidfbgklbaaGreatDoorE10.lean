/- The engine, part 10: make, lengths, nil, and every operation but a call. -/
import Derived.Test.YtnejoidfbgklbaaGreatDoorE9
namespace Go.Proofs.YtnejoidfbgklbaaGreatDoor.Eng
open Go Go.RowKit
set_option linter.unusedSimpArgs false
set_option linter.unusedVariables false

section
variable {P : Program} {base : Nat} {H : Hp} {ρ : Nat → Loc} {F : Nat → Nat → Prop} {w : World}

theorem make_ok (I : Inv base H ρ F w) {t : TypeId} {x y v : AV} {a b : Value} {H' : Hp} (hx : VR H ρ F w x a) (hy : VR H ρ F w y b) (h : amakeSlice P H t x y = some (v, H')) :
    ∃ u w' ρ', (Instr.makeSlice t a b).run P w = .ok u w' ∧ After base H ρ F w H' ρ' F w' ∧ VR H' ρ' F w' v u := by
  unfold amakeSlice at h
  simp only [Option.bind_eq_some_iff, Option.ite_none_right_eq_some, Option.some.injEq, Prod.mk.injEq] at h
  obtain ⟨el, hel, z, hz, bytes, hby, l, hl, c, hc, ⟨hlc, hroomy, hz0⟩, rfl, rfl⟩ := h
  obtain ⟨k1, i, rfl, hi0, rfl⟩ := nat_spec hx hl
  obtain ⟨k2, j, rfl, hj0, rfl⟩ := nat_spec hy hc
  obtain ⟨r1, r2⟩ := roomy_spec hroomy
  obtain ⟨zv, hzv, hzc, hszv, hone⟩ := run_zero hz
  have hzl : z.length = zv.cells.size := by rw [hzc]; simp
  obtain ⟨i0, hi, rfl⟩ := Option.map_eq_some_iff.1 hby
  have hwi := wrap_small hi0 (by omega)
  have hwj := wrap_small hj0 (by omega)
  have hb : ¬ (281474976710656 < (i0.bytes : Int) * j) := by
    have : ((j.toNat * i0.bytes : Nat) : Int) = (i0.bytes : Int) * j := by rw [Int.natCast_mul, Int.toNat_of_nonneg hj0, Int.mul_comm]
    omega
  obtain ⟨i1, i2⟩ := I.alloc (H0 := H) (fun _ _ h => h) rfl (cs := zeros j.toNat z) (ys := (Array.range (j.toNat * zv.cells.size)).map fun i => zv.cells[i % zv.cells.size]!) el (by rw [zeros_length, hzl]; simp) (by rw [hzc]; exact zeros_okc hone _) (by rw [hzc]; exact madeCells_vr _)
  refine ⟨.slice (some (at_ w.heap.size 0)) i.toNat j.toNat, w.alloc (.cells ((Array.range (j.toNat * zv.cells.size)).map fun i => zv.cells[i % zv.cells.size]!) el), _, ?_, ⟨i1, i2, (Below.refl _ _).alloc I.base _, fun _ _ h => .inl h⟩, .sl (by simp) fun cs hcs => ?_⟩
  · simp only [Instr.makeSlice, Sem.run_bind, run_und (elem_spec hel), Result.andThen_ok, asInt, asIntOf, Sem.run_pure, typeInfo, run_program, hi, hwi, hwj]
    rw [if_neg (by simp; omega)]
    simp only [Sem.run_bind, run_askRoom, Result.andThen_ok, run_sz hszv]
    by_cases h0 : j.toNat * zv.cells.size = 0
    · rw [if_pos h0]
      simp only [Sem.run_bind, Sem.run_pure, Result.andThen_ok, newRow, run_newObj]
      have e : (Array.range (j.toNat * zv.cells.size)).map (fun x => (#[] : Array Value)[x % (#[] : Array Value).size]!) = (Array.range (j.toNat * zv.cells.size)).map (fun i => zv.cells[i % zv.cells.size]!) := by rw [h0]; simp
      rw [e]; rfl
    · rw [if_neg h0]
      simp only [Sem.run_bind, Sem.run_pure, Result.andThen_ok, newRow, run_newObj, hzv]
      rfl
  · rw [Hp.new_h, if_pos rfl] at hcs
    simp only [Option.some.injEq] at hcs; subst hcs
    rw [zeros_length]
    refine .inr ⟨by simp [setρ], ?_, by omega, by simp [setρ, hzl]⟩
    have := Nat.mul_le_mul_right z.length hlc; omega

theorem equal_depth (t : TypeId) (a b : Value) : Op.equal t a b = Op.equalIn (9999 + 1) t a b := rfl

theorem nilCmp_ok {op : BinOp} {t : TypeId} {xo yo : Operand} {x y : AV} {a b : Value} {r q : Bool} (hx : VR H ρ F w x a) (hy : VR H ρ F w y b) (h : nilCmp (nilT P t) x y = some r) (hop : eqOp op = some q) :
    ((do eqGuard op t xo yo a b; binOp op t a b) : Sem Value).run P w = .ok (.bool (if q then r else !r)) w := by
  have fin : ((∃ p n c, a = .slice p n c) ∨ ∃ p, a = .pointer p) → (∀ w, (Op.equal t a b).run P w = .ok r w) → ((do eqGuard op t xo yo a b; binOp op t a b) : Sem Value).run P w = .ok (.bool (if q then r else !r)) w := by
    rintro h1 h2
    have hg := eqGuard_scalar (P := P) op t xo yo (a := a) (b := b) (by rintro ⟨rfl, rfl⟩; rcases h1 with ⟨_, _, _, h⟩ | ⟨_, h⟩ <;> cases h) (by rintro _ _ ⟨rfl, rfl⟩; rcases h1 with ⟨_, _, _, h⟩ | ⟨_, h⟩ <;> cases h) w
    simp only [Sem.run_bind, hg, Result.andThen_ok]
    unfold eqOp at hop
    split at hop <;> simp only [Option.some.injEq, reduceCtorEq] at hop <;> subst hop
    · rcases h1 with ⟨p, n, c, rfl⟩ | ⟨p, rfl⟩ <;> simp [binOp, h2]
    · rcases h1 with ⟨p, n, c, rfl⟩ | ⟨p, rfl⟩ <;> simp [binOp, h2]
  have hu1 : nilT P t = 1 → ∃ el, P.underlying t = some (.slice el) := by
    intro h; unfold nilT at h; split at h
    · exact ⟨_, by assumption⟩
    · omega
    · omega
  have hu2 : nilT P t = 2 → ∃ el, P.underlying t = some (.pointer el) := by
    intro h; unfold nilT at h; split at h
    · omega
    · exact ⟨_, by assumption⟩
    · omega
  unfold nilCmp at h
  split at h
  · rename_i hk
    obtain ⟨el, hu⟩ := hu1 hk
    have := hx.eqv; have := hy.eqv; subst a b
    simp only [Option.some.injEq] at h; subst h
    exact fin (.inl ⟨_, _, _, rfl⟩) (fun w => by rw [equal_depth]; generalize 9999 = d; simp [Op.equalIn, run_und hu])
  · rename_i hk
    obtain ⟨el, hu⟩ := hu1 hk
    have := hy.eqv; subst b
    simp only [Option.some.injEq] at h; subst h
    cases hx with
    | lst rd hne hs hf hc ho hm hv => exact fin (.inl ⟨_, _, _, rfl⟩) (fun w => by rw [equal_depth]; generalize 9999 = d; simp [Op.equalIn, run_und hu])
  · rename_i hk
    obtain ⟨el, hu⟩ := hu2 hk
    have := hy.eqv; subst b
    simp only [Option.some.injEq] at h; subst h
    cases hx with
    | ptr hb hl => exact fin (.inr ⟨_, rfl⟩) (fun w => by rw [equal_depth]; generalize 9999 = d; simp [Op.equalIn, run_und hu])
  · rename_i hk
    obtain ⟨el, hu⟩ := hu2 hk
    have := hy.eqv; subst b
    simp only [Option.some.injEq] at h; subst h
    cases hx with
    | fp rd hm hv => exact fin (.inr ⟨_, rfl⟩) (fun w => by rw [equal_depth]; generalize 9999 = d; simp [Op.equalIn, run_und hu])
  · rename_i hk
    obtain ⟨el, hu⟩ := hu2 hk
    have := hx.eqv; have := hy.eqv; subst a b
    simp only [Option.some.injEq] at h; subst h
    exact fin (.inr ⟨_, rfl⟩) (fun w => by rw [equal_depth]; generalize 9999 = d; simp [Op.equalIn, run_und hu])
  · rename_i hk
    obtain ⟨el, hu⟩ := hu1 hk
    have := hx.eqv; have := hy.eqv; subst a b
    simp only [Option.some.injEq] at h; subst h
    exact fin (.inl ⟨_, _, _, rfl⟩) (fun w => by rw [equal_depth]; generalize 9999 = d; simp [Op.equalIn, run_und hu])
  · rename_i hk
    obtain ⟨el, hu⟩ := hu1 hk
    split at h
    · simp at h
    rename_i hn0
    have := hy.eqv; subst b
    simp only [Option.some.injEq] at h; subst h
    cases hx with
    | sl hb hs hn =>
      rename_i ad c
      cases ad with
      | none => exact absurd (hn rfl) hn0
      | some ad => exact fin (.inl ⟨_, _, _, rfl⟩) (fun w => by rw [equal_depth]; generalize 9999 = d; simp [Op.equalIn, run_und hu])
  · simp at h

theorem nilQ_ok {op : BinOp} {t : TypeId} {xo : Operand} {x v : AV} {a : Value} (hx : VR H ρ F w x a) (h : nilQ P op t x = some v) :
    ∃ b, v = .v (.bool b) ∧ ((do eqGuard op t xo (.const .nilIface) a .nilIface; binOp op t a .nilIface) : Sem Value).run P w = .ok (.bool b) w := by
  unfold nilQ at h
  split at h
  · rename_i ms b hu
    obtain rfl := Option.some.inj h
    refine ⟨_, rfl, ?_⟩
    cases hx with
    | ifc0 =>
      have hg : (eqGuard .eql t xo (.const .nilIface) .nilIface .nilIface).run P w = .ok () w := by
        unfold eqGuard; cases xo <;> rfl
      simp only [Sem.run_bind, hg, Result.andThen_ok, binOp, equal_depth]
      generalize 9999 = d
      simp [Op.equalIn, run_und hu]
    | ifc1 =>
      rename_i u p
      have hg : (eqGuard .eql t xo (.const .nilIface) (.iface u p) .nilIface).run P w = .ok () w := by
        unfold eqGuard; rfl
      simp only [Sem.run_bind, hg, Result.andThen_ok, binOp, equal_depth]
      generalize 9999 = d
      simp [Op.equalIn, run_und hu]
  · rename_i ms b hu
    obtain rfl := Option.some.inj h
    refine ⟨_, rfl, ?_⟩
    cases hx with
    | ifc0 =>
      have hg : (eqGuard .neq t xo (.const .nilIface) .nilIface .nilIface).run P w = .ok () w := by
        unfold eqGuard; cases xo <;> rfl
      simp only [Sem.run_bind, hg, Result.andThen_ok, binOp, equal_depth]
      generalize 9999 = d
      simp [Op.equalIn, run_und hu]
    | ifc1 =>
      rename_i u p
      have hg : (eqGuard .neq t xo (.const .nilIface) (.iface u p) .nilIface).run P w = .ok () w := by
        unfold eqGuard; rfl
      simp only [Sem.run_bind, hg, Result.andThen_ok, binOp, equal_depth]
      generalize 9999 = d
      simp [Op.equalIn, run_und hu]
  · rename_i ms u p hu
    obtain rfl := Option.some.inj h
    refine ⟨_, rfl, ?_⟩
    have := hx.eqv; subst a
    have hg : (eqGuard .eql t xo (.const .nilIface) (.iface u p) .nilIface).run P w = .ok () w := by
      unfold eqGuard; rfl
    simp only [Sem.run_bind, hg, Result.andThen_ok, binOp, equal_depth]
    generalize 9999 = d
    simp [Op.equalIn, run_und hu]
  · rename_i ms u p hu
    obtain rfl := Option.some.inj h
    refine ⟨_, rfl, ?_⟩
    have := hx.eqv; subst a
    have hg : (eqGuard .neq t xo (.const .nilIface) (.iface u p) .nilIface).run P w = .ok () w := by
      unfold eqGuard; rfl
    simp only [Sem.run_bind, hg, Result.andThen_ok, binOp, equal_depth]
    generalize 9999 = d
    simp [Op.equalIn, run_und hu]
  · rename_i ms hu
    obtain rfl := Option.some.inj h
    refine ⟨_, rfl, ?_⟩
    have := hx.eqv; subst a
    have hg : (eqGuard .eql t xo (.const .nilIface) .nilIface .nilIface).run P w = .ok () w := by
      unfold eqGuard; cases xo <;> rfl
    simp only [Sem.run_bind, hg, Result.andThen_ok, binOp, equal_depth]
    generalize 9999 = d
    simp [Op.equalIn, run_und hu]
  · rename_i ms hu
    obtain rfl := Option.some.inj h
    refine ⟨_, rfl, ?_⟩
    have := hx.eqv; subst a
    have hg : (eqGuard .neq t xo (.const .nilIface) .nilIface .nilIface).run P w = .ok () w := by
      unfold eqGuard; cases xo <;> rfl
    simp only [Sem.run_bind, hg, Result.andThen_ok, binOp, equal_depth]
    generalize 9999 = d
    simp [Op.equalIn, run_und hu]
  · simp at h

theorem mkI_ok {t : TypeId} {x z : AV} {a : Value} (hx : VR H ρ F w x a) (h : amkI P t x = some z) : ∃ u, (Instr.makeInterface t a).run P w = .ok u w ∧ VR H ρ F w z u := by
  unfold amkI at h
  split at h
  · rename_i y
    split at h
    · rename_i hc
      obtain rfl := Option.some.inj h
      have := hx.eqv; subst a
      refine ⟨.iface t y, ?_, .v⟩
      unfold conc at hc
      cases hu : P.underlying t with
      | none => rw [hu] at hc; simp at hc
      | some d =>
        rw [hu] at hc
        cases d <;> first
          | (simp at hc; done)
          | (simp [Instr.makeInterface, run_und hu])
    · simp at h
  · simp at h

theorem vr_list {xs : List AV} {ys : List Value} (h : ∀ (i : Nat) x y, xs[i]? = some x → ys[i]? = some y → VR H ρ F w x y) (hl : xs.length = ys.length) {x : AV} {rest : List AV} (hx : xs = x :: rest) : ∃ y ys', ys = y :: ys' ∧ VR H ρ F w x y ∧ (∀ (i : Nat) x y, rest[i]? = some x → ys'[i]? = some y → VR H ρ F w x y) ∧ rest.length = ys'.length := by
  subst hx
  cases ys with
  | nil => simp at hl
  | cons y ys' => exact ⟨y, ys', rfl, h 0 x y rfl rfl, fun i a b ha hb => h (i + 1) a b (by simpa using ha) (by simpa using hb), by simpa using hl⟩

/-- The builtins that leave memory as it is. -/
theorem builtin0_ok {b : Builtin} {ts : Array TypeId} (ty : TypeId) (consts : Array Bool) {xs : List AV} {ys : Array Value} {v : AV} (hl : xs.length = ys.size)
    (hv : ∀ (i : Nat) x y, xs[i]? = some x → ys[i]? = some y → VR H ρ F w x y) (h : builtin0 P b ts.toList xs = some v) :
    ∃ u, (builtin b ts ty consts ys).run P w = .ok (.value u) w ∧ VR H ρ F w v u := by
  have one : ∀ x, xs = [x] → ∃ y, ys = #[y] ∧ VR H ρ F w x y := by
    rintro x rfl
    obtain ⟨y, ys', h1, h2, h3, h4⟩ := vr_list (ys := ys.toList) (fun i x y h1 h2 => hv i x y h1 (by simpa using h2)) (by simpa using hl) rfl
    have : ys' = [] := List.eq_nil_of_length_eq_zero (by simpa using h4.symm)
    subst this
    exact ⟨y, by apply Array.ext'; simpa using h1, h2⟩
  have two : ∀ x x', xs = [x, x'] → ∃ y y', ys = #[y, y'] ∧ VR H ρ F w x y ∧ VR H ρ F w x' y' := by
    rintro x x' rfl
    obtain ⟨y, ys', h1, h2, h3, h4⟩ := vr_list (ys := ys.toList) (fun i x y h1 h2 => hv i x y h1 (by simpa using h2)) (by simpa using hl) rfl
    obtain ⟨y', ys'', k1, k2, k3, k4⟩ := vr_list h3 h4 rfl
    have : ys'' = [] := List.eq_nil_of_length_eq_zero (by simpa using k4.symm)
    subst this
    exact ⟨y, y', by apply Array.ext'; rw [h1, k1], h2, k2⟩
  have ht0 : ∀ t rest, ts.toList = t :: rest → ts[0]? = some t := by
    intro t rest h; rw [← toList_get, h]; rfl
  unfold builtin0 at h
  split at h
  · -- len
    obtain ⟨y, rfl, hy⟩ := one _ rfl
    split at h
    case h_2 => simp at h
    rename_i t rest hts
    have h0 := ht0 t rest hts
    split at h
    · rename_i hu
      split at h
      · simp only [Option.some.injEq] at h
        subst h
        have := hy.eqv; subst y
        exact ⟨_, by simp [builtin, Builtin.len_, h0, run_und hu, goInt], .v⟩
      · simp at h
    · rename_i el hu
      split at h
      · simp only [Option.some.injEq] at h
        subst h
        have := hy.eqv; subst y
        exact ⟨_, by simp [builtin, Builtin.len_, h0, run_und hu, goInt], .v⟩
      · simp only [Option.some.injEq] at h
        subst h
        cases hy with
        | lst0 => exact ⟨_, by simp [builtin, Builtin.len_, h0, run_und hu, goInt], .v⟩
        | lst rd hne hs hf hc ho hm hv => exact ⟨_, by simp [builtin, Builtin.len_, h0, run_und hu, goInt], .v⟩
      · simp only [Option.some.injEq] at h
        subst h
        cases hy with
        | sl hb hs hnn => exact ⟨_, by simp [builtin, Builtin.len_, h0, run_und hu, goInt], .v⟩
      · simp at h
    · rename_i n el hu
      simp only [Option.some.injEq] at h
      subst h
      exact ⟨_, by simp [builtin, Builtin.len_, h0, run_und hu, goInt], .v⟩
    · simp at h
  · -- cap
    obtain ⟨y, rfl, hy⟩ := one _ rfl
    split at h
    case h_2 => simp at h
    rename_i t rest hts
    have h0 := ht0 t rest hts
    split at h
    · rename_i el n c hu
      simp only [Option.some.injEq] at h
      subst h
      have := hy.eqv; subst y
      exact ⟨_, by simp [builtin, Builtin.cap_, h0, run_und hu, goInt], .v⟩
    · rename_i el xs' hu
      simp only [Option.some.injEq] at h
      subst h
      cases hy with
      | lst0 h00 => exact ⟨_, by simp [builtin, Builtin.cap_, h0, run_und hu, goInt, h00], .v⟩
      | lst rd hne hs hf hc ho hm hv => exact ⟨_, by simp [builtin, Builtin.cap_, h0, run_und hu, goInt, hf], .v⟩
    · rename_i n el hu
      simp only [Option.some.injEq] at h
      subst h
      exact ⟨_, by simp [builtin, Builtin.cap_, h0, run_und hu, goInt], .v⟩
    · simp at h
  · -- max
    obtain ⟨y, y', rfl, hy, hy'⟩ := two _ _ rfl
    simp only [Option.ite_none_right_eq_some, Option.some.injEq] at h
    obtain ⟨rfl, rfl⟩ := h
    have := hy.eqv; have := hy'.eqv; subst y y'
    exact ⟨_, by simp [builtin, Builtin.max_, Builtin.max2], .v⟩
  · -- min
    obtain ⟨y, y', rfl, hy, hy'⟩ := two _ _ rfl
    simp only [Option.ite_none_right_eq_some, Option.some.injEq] at h
    obtain ⟨rfl, rfl⟩ := h
    have := hy.eqv; have := hy'.eqv; subst y y'
    exact ⟨_, by simp [builtin, Builtin.min_, Builtin.min2], .v⟩
  · simp at h

theorem clear_ok (I : Inv base H ρ F w) {ts : Array TypeId} (ty : TypeId) {x v : AV} {a : Value} {H' : Hp} (hx : VR H ρ F w x a) (h : aclear P H ts.toList x = some (v, H')) :
    ∃ u w', (Builtin.clear_ ts ty #[a]).run P w = .ok u w' ∧ After base H ρ F w H' ρ F w' ∧ v = .any := by
  unfold aclear at h
  split at h
  rotate_left
  · simp at h
  rename_i t b sz o n hts
  obtain ⟨el, hel, h⟩ := Option.bind_eq_some_iff.1 h
  obtain ⟨z, hz, h⟩ := Option.bind_eq_some_iff.1 h
  obtain ⟨cs, hc, h⟩ := Option.bind_eq_some_iff.1 h
  obtain ⟨y, rfl⟩ : ∃ y, z = [y] := by
    cases z with
    | nil => simp at h
    | cons y zt => cases zt with
      | nil => exact ⟨y, rfl⟩
      | cons _ _ => simp at h
  simp only [Option.ite_none_right_eq_some, Option.some.injEq, Prod.mk.injEq] at h
  obtain ⟨⟨rfl, hle, hok⟩, rfl, rfl⟩ := h
  have hts' : ts = #[t] := by apply Array.ext'; rw [hts]
  subst hts'
  cases hx with
  | sl hb hs hnn =>
    rename_i p c
    obtain ⟨zv, hzv, hzc, hszv, hone⟩ := run_zero hz
    obtain ⟨yv, hyv⟩ : ∃ yv, zv.cells = #[yv] := by
      have hs1 : zv.cells.size = 1 := by have := congrArg List.length hzc; simpa using this.symm
      exact ⟨zv.cells[0], by
        apply Array.ext
        · simp [hs1]
        · intro i h1 h2
          have : i = 0 := by omega
          subst this; rfl⟩
    have hy : y = .v yv := by rw [hyv] at hzc; simpa using hzc
    subst hy
    have hyone : yv.oneCell' = true := hone yv (by rw [hyv]; simp)
    have hzero : (Builtin.zeroCells zv.cells n).toList = List.replicate n yv := by
      rw [hyv]
      simp [Builtin.zeroCells]
      apply List.ext_getElem
      · simp
      · intro i h1 h2
        simp [Nat.mod_one]
    have hmem : ∀ j, j < (List.replicate n yv).length → (∃ x, w.cell? (at_ (ρ b).blk ((ρ b).off + o + 0 + j)) = some x) ∧ w.frozen? (at_ (ρ b).blk ((ρ b).off + o + 0 + j)) = false := fun j hj => by
      simp only [List.length_replicate] at hj
      have b3 := (I.blk b cs hc).2.2
      have := I.mem b cs hc (o + j) (by omega)
      rw [Nat.add_zero, Nat.add_assoc]; exact this
    obtain ⟨w', hr, hw⟩ := storeCells_wrote P (List.replicate n yv) w (ρ b).blk ((ρ b).off + o) 0 hmem (fun y hy => by rw [List.eq_of_mem_replicate hy]; exact hyone)
    rw [Nat.add_zero] at hw
    obtain ⟨i1, i2, i3⟩ := I.write hc hw (xs := List.replicate n (.v yv)) (by simp) (by simpa using hle) (fun x hx => by rw [List.eq_of_mem_replicate hx]; exact hok) (fun i c d hc hd => by
      have h1 : c = .v yv := List.eq_of_mem_replicate (List.mem_of_getElem? hc)
      have h2 : d = yv := List.eq_of_mem_replicate (List.mem_of_getElem? hd)
      subst h1 h2; exact .v)
    rcases hs cs hc with ⟨rfl, rfl, -⟩ | ⟨rfl, s1, s2, s3⟩
    · have e : w' = w := by
        simp only [List.replicate_zero] at hr
        have : (storeCells (at_ (ρ b).blk ((ρ b).off + o)) [] 0).run P w = .ok () w := rfl
        rw [this] at hr
        simpa using hr.symm
      subst e
      refine ⟨.tuple #[], _, ?_, ⟨i1, i2, i3, fun _ _ h => .inl h⟩, rfl⟩
      cases p <;> simp [Builtin.clear_, run_und (elem_spec hel)]
    · by_cases hn : n = 0
      · subst hn
        have e : w' = w := by
          simp only [List.replicate_zero] at hr
          have : (storeCells (at_ (ρ b).blk ((ρ b).off + o)) [] 0).run P w = .ok () w := rfl
          rw [this] at hr
          simpa using hr.symm
        subst e
        refine ⟨.tuple #[], _, ?_, ⟨i1, i2, i3, fun _ _ h => .inl h⟩, rfl⟩
        simp [Builtin.clear_, run_und (elem_spec hel)]
      · obtain ⟨m, rfl⟩ : ∃ m, n = m + 1 := ⟨n - 1, by omega⟩
        refine ⟨.tuple #[], w', ?_, ⟨i1, i2, i3, fun _ _ h => .inl h⟩, rfl⟩
        simp [Builtin.clear_, run_und (elem_spec hel), hzv, hzero, hr]

/-- The builtins. -/
theorem builtin_ok (I : Inv base H ρ F w) {b : Builtin} {ts : Array TypeId} (ty : TypeId) (consts : Array Bool) {xs : List AV} {ys : Array Value} {v : AV} {H' : Hp} (hl : xs.length = ys.size)
    (hv : ∀ (i : Nat) x y, xs[i]? = some x → ys[i]? = some y → VR H ρ F w x y) (h : builtinOp P H b ts.toList xs = some (v, H')) :
    ∃ u w' ρ', (builtin b ts ty consts ys).run P w = .ok (.value u) w' ∧ After base H ρ F w H' ρ' F w' ∧ VR H' ρ' F w' v u := by
  unfold builtinOp at h
  split at h
  · split at h
    case h_2 => simp at h
    rename_i x x'
    obtain ⟨y, ys', h1, h2, h3, h4⟩ := vr_list (ys := ys.toList) (fun i x y h1 h2 => hv i x y h1 (by simpa using h2)) (by simpa using hl) rfl
    obtain ⟨y', ys'', k1, k2, k3, k4⟩ := vr_list h3 h4 rfl
    have : ys'' = [] := List.eq_nil_of_length_eq_zero (by simpa using k4.symm)
    subst this
    have hys : ys = #[y, y'] := by apply Array.ext'; rw [h1, k1]
    subst hys
    obtain ⟨u, w', ρ', h1, h2, h3⟩ := append_ok I ty h2 k2 h
    exact ⟨u, w', ρ', by simp only [builtin, Sem.run_bind]; rw [show ts.toList.toArray = ts by simp] at h1; rw [h1]; rfl, h2, h3⟩
  · split at h
    case h_2 => simp at h
    rename_i x
    obtain ⟨y, ys', h1, h2, h3, h4⟩ := vr_list (ys := ys.toList) (fun i x y h1 h2 => hv i x y h1 (by simpa using h2)) (by simpa using hl) rfl
    have : ys' = [] := List.eq_nil_of_length_eq_zero (by simpa using h4.symm)
    subst this
    have hys : ys = #[y] := by apply Array.ext'; rw [h1]
    subst hys
    obtain ⟨u, w', h1, h2, rfl⟩ := clear_ok I ty h2 h
    exact ⟨u, w', ρ, by simp only [builtin, Sem.run_bind, h1]; rfl, h2, .any⟩
  · obtain ⟨z, hz, heq⟩ := Option.map_eq_some_iff.1 h
    simp only [Prod.mk.injEq] at heq; obtain ⟨rfl, rfl⟩ := heq
    obtain ⟨u, h1, h2⟩ := builtin0_ok (P := P) ty consts hl hv hz
    exact ⟨u, w, ρ, h1, .refl I, h2⟩
end
end Go.Proofs.YtnejoidfbgklbaaGreatDoor.Eng
