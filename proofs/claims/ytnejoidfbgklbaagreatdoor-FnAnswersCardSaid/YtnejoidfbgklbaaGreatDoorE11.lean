/- The engine, part 11: every operation but a call. -/
import Derived.Test.YtnejoidfbgklbaaGreatDoorE10
namespace Go.Proofs.YtnejoidfbgklbaaGreatDoor.Eng
open Go Go.RowKit
set_option linter.unusedSimpArgs false
set_option linter.unusedVariables false

section
variable {P : Program} {base : Nat} {H : Hp} {ρ : Nat → Loc} {F : Nat → Nat → Prop} {w : World}

/-- A slice literal that is only read. -/
theorem litF_ok (I : Inv base H ρ F w) {e : Env} {a : Act} (h : EnvR H ρ F w e a) {t : TypeId} {n : Nat} {ps : Array (Nat × Operand)} {cs : List AV} {sz : Nat} (hb : abuildSlice P t n (aparts e ps) = some (cs, sz)) (ho : ∀ x ∈ cs, okc x = true) :
    ∃ u w' F', (Instr.buildSlice t n (ps.map fun (x : Nat × Operand) => (x.1, a.eval x.2))).run P w = .ok u w' ∧ After base H ρ F w H ρ F' w' ∧ VR H ρ F' w' (.lst true (chunk sz n cs)) u := by
  obtain ⟨ds, el, h1, h2, h3, h4⟩ := buildSlice_real (P := P) I h hb
  obtain ⟨i1, i2⟩ := I.allocF (w' := w.alloc (.cells ds el)) (by simp) (fun k o hk => cell_old _ _ _ _ hk) (fun k o hk => frozen_old _ _ _ _ hk) (I.tab.below ((Below.refl _ _).alloc I.base _))
    (F' := fun k o => F k o ∨ (k = w.heap.size ∧ o < ds.size)) (fun k o h => .inl h) (fun k o h => h.imp id (fun h => by simp; omega))
  refine ⟨_, w.alloc (.cells ds el), _, h1, ⟨i1, i2, (Below.refl _ _).alloc I.base _, fun k o h => h.imp id (fun h => by have := I.base; omega)⟩, ?_⟩
  refine VR.lstOf h3 (Nat.le_refl _) (fun _ => rfl) ho fun i x hi => ?_
  have hlt := lt_of_get hi
  refine ⟨ds[i]'(by omega), by rw [Nat.zero_add, cell_new]; simp [show i < ds.size by omega], .inr ⟨rfl, by omega⟩, ?_⟩
  exact (h4 i x _ hi (by simp [show i < ds.size by omega])).mono i2

/-- A slice literal as an own block. -/
theorem litO_ok (I : Inv base H ρ F w) {e : Env} {a : Act} (h : EnvR H ρ F w e a) {t : TypeId} {n : Nat} {ps : Array (Nat × Operand)} {cs : List AV} {sz : Nat} (hb : abuildSlice P t n (aparts e ps) = some (cs, sz)) (ho : ∀ x ∈ cs, okc x = true) :
    ∃ u w' ρ', (Instr.buildSlice t n (ps.map fun (x : Nat × Operand) => (x.1, a.eval x.2))).run P w = .ok u w' ∧ After base H ρ F w (H.new cs) ρ' F w' ∧ VR (H.new cs) ρ' F w' (.sl H.g sz 0 n) u := by
  obtain ⟨ds, el, h1, h2, h3, h4⟩ := buildSlice_real (P := P) I h hb
  obtain ⟨i1, i2⟩ := I.alloc (H0 := H) (fun _ _ h => h) rfl (cs := cs) (ys := ds) el (by omega) ho h4
  refine ⟨_, w.alloc (.cells ds el), _, h1, ⟨i1, i2, (Below.refl _ _).alloc I.base _, fun _ _ h => .inl h⟩, .sl (by simp) fun cs' hc => ?_⟩
  rw [Hp.new_h, if_pos rfl] at hc
  simp only [Option.some.injEq] at hc; subst hc
  exact .inr ⟨by simp [setρ], by omega, by omega, by simp [setρ]; omega⟩

/-- What an operation leaves. -/
def OpDone (P : Program) (base : Nat) (H : Hp) (ρ : Nat → Loc) (F : Nat → Nat → Prop) (w : World) (r : Result Next) (v : AV) (H' : Hp) : Prop :=
  ∃ w' ρ' F', After base H ρ F w H' ρ' F' w' ∧ ((∃ u, r = .ok (.value u) w' ∧ VR H' ρ' F' w' v u) ∨ (r = .ok .skip w' ∧ v = .any))

theorem OpDone.same (I : Inv base H ρ F w) {r : Result Next} {v : AV} {u : Value} (h : r = .ok (.value u) w) (hv : VR H ρ F w v u) : OpDone P base H ρ F w r v H := ⟨w, ρ, F, .refl I, .inl ⟨u, h, hv⟩⟩

theorem run_v (s : Sem Value) {w w' : World} {u : Value} (h : s.run P w = .ok u w') : ((do Pure.pure (Next.value (← s))) : Sem Next).run P w = .ok (.value u) w' := by
  simp only [Sem.run_bind, h, Result.andThen_ok, Sem.run_pure]
theorem run_u (s : Sem Unit) {w w' : World} (h : s.run P w = .ok () w') : ((do s; Pure.pure Next.skip) : Sem Next).run P w = .ok .skip w' := by
  simp only [Sem.run_bind, h, Result.andThen_ok, Sem.run_pure]

/-- Is it a call of a function? -/
def isCall : Op → Bool
  | .call c => match c.callee with | .value _ => true | _ => false
  | _ => false

theorem aop_ok (I : Inv base H ρ F w) {e : Env} {a : Act} (he : EnvR H ρ F w e a) {pol : Nat → Nat} {cf : CallF} {o : Oper} {v : AV} {H' : Hp} (h : aop P pol cf o e H = some (v, H')) (hc : isCall o.op = false) :
    OpDone P base H ρ F w ((execOp a.eval o).run P w) v H' := by
  obtain ⟨dst, op, ty, pos, after, guard⟩ := o
  unfold aop at h
  simp only at h hc
  split at h
  · rename_i x
    simp only [Option.some.injEq, Prod.mk.injEq] at h; obtain ⟨rfl, rfl⟩ := h
    exact .same I rfl (he.opd x)
  · rename_i x
    simp only [Option.some.injEq, Prod.mk.injEq] at h; obtain ⟨rfl, rfl⟩ := h
    exact .same I rfl (he.opd x)
  · rename_i c x y
    split at h
    · rename_i t ht
      simp only [Option.some.injEq, Prod.mk.injEq] at h; obtain ⟨rfl, rfl⟩ := h
      have hb : a.eval c = .bool t := by have := he.opd c; rw [ht] at this; exact this.eqv
      refine .same I (u := if t then a.eval x else a.eval y) (by simp [execOp, hb, asBool]) ?_
      cases t
      · exact he.opd y
      · exact he.opd x
    · simp at h
  · rename_i t
    obtain ⟨z, hz, heq⟩ := Option.map_eq_some_iff.1 h
    simp only [Prod.mk.injEq] at heq; obtain ⟨rfl, rfl⟩ := heq
    obtain ⟨u, w', ρ', h1, h2, h3⟩ := alloc_ok I hz
    exact ⟨w', ρ', F, h2, .inl ⟨u, run_v _ h1, h3⟩⟩
  · rename_i t x
    simp only [Option.bind_eq_some_iff, Option.ite_none_right_eq_some, Option.some.injEq, Prod.mk.injEq] at h
    obtain ⟨cs, hcs, hall, rfl, rfl⟩ := h
    obtain ⟨u, w', ρ', h1, h2, h3⟩ := box_ok (P := P) I t (he.opd x) hcs (fun x hx => List.all_eq_true.1 hall x hx)
    exact ⟨w', ρ', F, h2, .inl ⟨u, run_v _ h1, h3⟩⟩
  · rename_i t ps
    obtain ⟨z, hz, heq⟩ := Option.map_eq_some_iff.1 h
    simp only [Prod.mk.injEq] at heq; obtain ⟨rfl, rfl⟩ := heq
    obtain ⟨u, h1, h2⟩ := build_ok he hz
    exact .same I (run_v _ h1) h2
  · rename_i t n ps
    obtain ⟨⟨cs, sz⟩, hb, h⟩ := Option.bind_eq_some_iff.1 h
    split at h
    · simp at h
    rename_i hok
    have hall : ∀ x ∈ cs, okc x = true := fun x hx => by
      have : cs.all okc = true := by
        cases hq : cs.all okc with
        | true => rfl
        | false => exact absurd (.inr (by simp [hq])) hok
      exact List.all_eq_true.1 this x hx
    split at h
    · simp only [Option.some.injEq, Prod.mk.injEq] at h; obtain ⟨rfl, rfl⟩ := h
      obtain ⟨u, w', ρ', h1, h2, h3⟩ := litO_ok I he hb hall
      exact ⟨w', ρ', F, h2, .inl ⟨u, run_v _ h1, h3⟩⟩
    · simp only [Option.some.injEq, Prod.mk.injEq] at h; obtain ⟨rfl, rfl⟩ := h
      obtain ⟨u, w', F', h1, h2, h3⟩ := litF_ok I he hb hall
      exact ⟨w', ρ, F', h2, .inl ⟨u, run_v _ h1, h3⟩⟩
  · rename_i t x
    obtain ⟨z, hz, heq⟩ := Option.map_eq_some_iff.1 h
    simp only [Prod.mk.injEq] at heq; obtain ⟨rfl, rfl⟩ := heq
    obtain ⟨u, h1, h2⟩ := load_ok (P := P) I (he.opd x) hz
    exact .same I (run_v _ h1) h2
  · rename_i t x y
    obtain ⟨z, hz, heq⟩ := Option.map_eq_some_iff.1 h
    simp only [Prod.mk.injEq] at heq; obtain ⟨rfl, rfl⟩ := heq
    obtain ⟨w', h1, h2⟩ := store_ok (P := P) I (he.opd x) (he.opd y) hz
    exact ⟨w', ρ, F, h2, .inr ⟨run_u _ h1, rfl⟩⟩
  · rename_i x
    split at h
    · rename_i b q hq
      simp only [Option.some.injEq, Prod.mk.injEq] at h; obtain ⟨rfl, rfl⟩ := h
      have hx := he.opd x
      rw [hq] at hx
      generalize hy : a.eval x = y at hx
      cases hx with
      | ptr hb hl => exact .same I (by simp [execOp, hy]) (.ptr hb hl)
    · rename_i c q hq
      simp only [Option.some.injEq, Prod.mk.injEq] at h; obtain ⟨rfl, rfl⟩ := h
      have hx := he.opd x
      rw [hq] at hx
      generalize hy : a.eval x = y at hx
      cases hx with
      | fp rd hm hv => exact .same I (by simp [execOp, hy]) (.fp rd hm hv)
    · simp at h
  · rename_i bop t x y _
    split at h
    · rename_i hy
      obtain rfl : y = .const .nilIface := by
        unfold isNilC at hy; split at hy
        · rfl
        · simp at hy
      obtain ⟨z, hz, heq⟩ := Option.map_eq_some_iff.1 h
      simp only [Prod.mk.injEq] at heq; obtain ⟨rfl, rfl⟩ := heq
      obtain ⟨b, rfl, h1⟩ := nilQ_ok (P := P) (xo := x) (he.opd x) hz
      exact .same I (run_v _ h1) .v
    split at h
    · rename_i b hb
      obtain ⟨q, hq, heq⟩ := Option.map_eq_some_iff.1 h
      simp only [Prod.mk.injEq] at heq; obtain ⟨rfl, rfl⟩ := heq
      exact .same I (run_v _ (nilCmp_ok (he.opd x) (he.opd y) hb hq)) .v
    · obtain ⟨z, hz, heq⟩ := Option.map_eq_some_iff.1 h
      simp only [Prod.mk.injEq] at heq; obtain ⟨rfl, rfl⟩ := heq
      obtain ⟨u, h1, h2⟩ := bin_ok (P := P) (xo := x) (yo := y) (he.opd x) (he.opd y) hz
      exact .same I (run_v _ h1) h2
  · rename_i uop t x
    obtain ⟨z, hz, heq⟩ := Option.map_eq_some_iff.1 h
    simp only [Prod.mk.injEq] at heq; obtain ⟨rfl, rfl⟩ := heq
    obtain ⟨u, h1, h2⟩ := unary_ok (P := P) (he.opd x) hz
    exact .same I (run_v _ h1) h2
  · rename_i t x
    obtain ⟨z, hz, heq⟩ := Option.map_eq_some_iff.1 h
    simp only [Prod.mk.injEq] at heq; obtain ⟨rfl, rfl⟩ := heq
    obtain ⟨u, h1, h2⟩ := mkI_ok (P := P) (he.opd x) hz
    exact .same I (run_v _ h1) h2
  · rename_i s d x
    obtain ⟨z, hz, heq⟩ := Option.map_eq_some_iff.1 h
    simp only [Prod.mk.injEq] at heq; obtain ⟨rfl, rfl⟩ := heq
    obtain ⟨u, w', F', h1, h2, h3⟩ := conv_ok (P := P) I (he.opd x) hz
    exact ⟨w', ρ, F', h2, .inl ⟨u, run_v _ h1, h3⟩⟩
  · rename_i f first cap
    simp only [Option.ite_none_right_eq_some, Option.some.injEq, Prod.mk.injEq] at h
    obtain ⟨hf, rfl, rfl⟩ := h
    have hf0 : first = #[] := Array.eq_empty_of_size_eq_zero hf
    subst hf0
    refine .same I (u := .func (.func f) #[] (cap.map a.eval)) (by simp [execOp, Instr.makeFunc]) (.fn (by simp) fun i x y hx hy => ?_)
    rw [List.getElem?_map] at hx
    obtain ⟨z, hz, rfl⟩ := Option.map_eq_some_iff.1 hx
    rw [Array.getElem?_map, ← toList_get, hz] at hy
    simp at hy; subst hy
    exact he.opd z
  · rename_i t l c
    obtain ⟨u, w', ρ', h1, h2, h3⟩ := make_ok (P := P) I (he.opd l) (he.opd c) h
    exact ⟨w', ρ', F, h2, .inl ⟨u, run_v _ h1, h3⟩⟩
  · rename_i t x lo hi mx
    obtain ⟨z, hz, heq⟩ := Option.map_eq_some_iff.1 h
    simp only [Prod.mk.injEq] at heq; obtain ⟨rfl, rfl⟩ := heq
    obtain ⟨u, h1, h2⟩ := slice_ok (P := P) I he (he.opd x) hz
    exact .same I (run_v _ h1) h2
  · rename_i s x f
    obtain ⟨z, hz, heq⟩ := Option.map_eq_some_iff.1 h
    simp only [Prod.mk.injEq] at heq; obtain ⟨rfl, rfl⟩ := heq
    obtain ⟨u, h1, h2⟩ := fieldAddr_ok (P := P) (he.opd x) hz
    exact .same I (run_v _ h1) h2
  · rename_i s x f
    obtain ⟨z, hz, heq⟩ := Option.map_eq_some_iff.1 h
    simp only [Prod.mk.injEq] at heq; obtain ⟨rfl, rfl⟩ := heq
    obtain ⟨u, h1, h2⟩ := field_ok (P := P) (he.opd x) hz
    exact .same I (run_v _ h1) h2
  · rename_i t x i
    obtain ⟨z, hz, heq⟩ := Option.map_eq_some_iff.1 h
    simp only [Prod.mk.injEq] at heq; obtain ⟨rfl, rfl⟩ := heq
    obtain ⟨u, h1, h2⟩ := indexAddr_ok (P := P) I (he.opd x) (he.opd i) hz
    exact .same I (run_v _ h1) h2
  · rename_i t x i
    obtain ⟨z, hz, heq⟩ := Option.map_eq_some_iff.1 h
    simp only [Prod.mk.injEq] at heq; obtain ⟨rfl, rfl⟩ := heq
    obtain ⟨u, h1, h2⟩ := index_ok (P := P) (he.opd x) (he.opd i) hz
    exact .same I (run_v _ h1) h2
  · rename_i x i
    obtain ⟨z, hz, heq⟩ := Option.map_eq_some_iff.1 h
    simp only [Prod.mk.injEq] at heq; obtain ⟨rfl, rfl⟩ := heq
    obtain ⟨u, h1, h2⟩ := extract_ok (P := P) (he.opd x) hz
    exact .same I (run_v _ h1) h2
  · rename_i c
    simp only [isCall] at hc
    split at h
    · rename_i f hf; rw [hf] at hc; simp at hc
    · rename_i b hb
      have hargs : ∀ (i : Nat) x y, (c.args.toList.map (opd e))[i]? = some x → (c.args.map a.eval)[i]? = some y → VR H ρ F w x y := by
        intro i x y hx hy
        rw [List.getElem?_map] at hx
        obtain ⟨z, hz, rfl⟩ := Option.map_eq_some_iff.1 hx
        rw [Array.getElem?_map, ← toList_get, hz] at hy
        simp at hy; subst hy
        exact he.opd z
      obtain ⟨u, w', ρ', h1, h2, h3⟩ := builtin_ok (P := P) I ty (c.args.map fun | .const _ => true | _ => false) (ys := c.args.map a.eval) (by simp) hargs h
      refine ⟨w', ρ', F, h2, .inl ⟨u, ?_, h3⟩⟩
      simp only [execOp, resolve, hb, Sem.run_bind, Sem.run_pure, Result.andThen_ok, invoke]
      exact h1
    · simp at h
  · simp at h
end
end Go.Proofs.YtnejoidfbgklbaaGreatDoor.Eng
