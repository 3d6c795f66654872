/- The engine, part 4: each operation does on real values what it does on abstract ones. -/
import Derived.Test.YtnejoidfbgklbaaGreatDoorE3
namespace Go.Proofs.YtnejoidfbgklbaaGreatDoor.Eng
open Go Go.RowKit
set_option linter.unusedSimpArgs false
set_option linter.unusedVariables false

section
variable {P : Program} {base : Nat} {H : Hp} {ρ : Nat → Loc} {F : Nat → Nat → Prop} {w : World}

theorem lt_of_get {α : Type} {l : List α} {i : Nat} {x : α} (h : l[i]? = some x) : i < l.length := by
  rcases Nat.lt_or_ge i l.length with h' | h'
  · exact h'
  · rw [List.getElem?_eq_none h'] at h; simp at h

structure EnvR (H : Hp) (ρ : Nat → Loc) (F : Nat → Nat → Prop) (w : World) (e : Env) (a : Act) : Prop where
  df : a.defers = []
  tm : ∀ t, VR H ρ F w (e t) (a.tmps.getD t undef)

theorem EnvR.mono {H' : Hp} {ρ' : Nat → Loc} {F' : Nat → Nat → Prop} {w' : World} (s : Step H ρ F w H' ρ' F' w') {e : Env} {a : Act} (h : EnvR H ρ F w e a) : EnvR H' ρ' F' w' e a :=
  ⟨h.df, fun t => (h.tm t).mono s⟩

theorem VR.ofV (y : Value) : VR H ρ F w (ofV y) y := by
  unfold Eng.ofV
  split
  · refine .agg (by simp) fun i x y' hx hy => ?_
    rename_i cs
    rw [List.getElem?_map, Array.getElem?_toList, hy] at hx
    simp at hx; subst hx; exact .v
  · exact .v

theorem EnvR.opd {e : Env} {a : Act} (h : EnvR H ρ F w e a) (x : Operand) : VR H ρ F w (opd e x) (a.eval x) := by
  cases x with
  | tmp t => exact h.tm t
  | const y => exact .ofV y
  | global g => exact .v
  | func f => exact .fn rfl (fun i x y hx _ => by simp at hx)

theorem EnvR.put {e : Env} {a : Act} (h : EnvR H ρ F w e a) {x : AV} {y : Value} (hv : VR H ρ F w x y) (d : Option Nat) (hd : ∀ t, d = some t → t < a.tmps.size) : EnvR H ρ F w (put e d x) (a.put d y) := by
  cases d with
  | none => exact h
  | some t =>
    refine ⟨h.df, fun t' => ?_⟩
    have hs := hd t rfl
    simp only [Eng.put, upd, Act.put]
    split
    · rename_i e'; subst e'; simpa [hs] using hv
    · rename_i hne
      have := h.tm t'
      simpa [Array.getElem?_setIfInBounds_ne (Ne.symm hne)] using this

/-! Types. -/
theorem run_und {t : TypeId} {d : TypeDesc} (h : P.underlying t = some d) (w : World) : (underlying t).run P w = .ok d w := by simp [underlying, h]
theorem run_isAgg {t : TypeId} {b : Bool} (h : aggT P t = some b) (w : World) : (isAgg t).run P w = .ok b w := by
  obtain ⟨d, hd, rfl⟩ := Option.map_eq_some_iff.1 h
  unfold isAgg
  rw [Sem.run_bind, run_und hd]
  cases d <;> rfl
theorem run_sz {t : TypeId} {n : Nat} (h : szOf P t = some n) (w : World) : (sizeOf t).run P w = .ok n w := by
  obtain ⟨i, hi, rfl⟩ := Option.map_eq_some_iff.1 h
  simp [sizeOf, typeInfo, hi]
theorem zero_spec {t : TypeId} {z : List AV} (h : zeroOf P t = some z) : ∃ i y, P.info? t = some i ∧ i.zero = some y ∧ z = y.cells.toList.map .v ∧ y.cells.size = i.size ∧ (∀ c ∈ y.cells.toList, c.oneCell' = true) := by
  unfold zeroOf at h
  split at h
  · rename_i i hi
    split at h
    · rename_i y hy
      split at h
      · rename_i hc
        exact ⟨i, y, hi, hy, by simpa using h.symm, hc.1, fun c hm => List.all_eq_true.1 hc.2 c hm⟩
      · simp at h
    · simp at h
  · simp at h
theorem run_zero {t : TypeId} {z : List AV} (h : zeroOf P t = some z) : ∃ y : Value, (∀ w, (zeroValue t).run P w = .ok y w) ∧ z = y.cells.toList.map .v ∧ szOf P t = some y.cells.size ∧ (∀ c ∈ y.cells.toList, c.oneCell' = true) := by
  obtain ⟨i, y, hi, hy, hz, hs, hc⟩ := zero_spec h
  exact ⟨y, fun w => by simp [zeroValue, typeInfo, hi, hy], hz, by simp [szOf, hi, hs], hc⟩

/-! Cells of values. -/
theorem cells_of {x : AV} {y : Value} (h : VR H ρ F w x y) {cs : List AV} (hc : asCells x = some cs) : cs.length = y.cells.size ∧ ∀ (i : Nat) c d, cs[i]? = some c → y.cells[i]? = some d → VR H ρ F w c d := by
  cases h with
  | agg hl hv => simp [asCells] at hc; subst hc; exact ⟨hl, hv⟩
  | any => simp [asCells, okc] at hc
  | ifc0 => simp [asCells, okc] at hc
  | ifc1 => simp [asCells, okc] at hc
  | tup => simp [asCells, okc] at hc
  | v =>
    by_cases h1 : y.oneCell' = true
    case neg => simp [asCells, okc, h1] at hc
    simp only [asCells, okc, h1, if_true, Option.some.injEq] at hc
    subst hc
    have hy : y.cells = #[y] := by cases y <;> simp [Value.oneCell'] at h1 <;> rfl
    rw [hy]
    refine ⟨rfl, fun i c d h3 h4 => ?_⟩
    have hi := lt_of_get h3
    simp at hi; subst hi
    simp at h3 h4; subst h3 h4; exact .v
  | _ =>
    simp only [asCells, okc, if_true, Option.some.injEq] at hc
    subst hc
    refine ⟨rfl, fun i c d h3 h4 => ?_⟩
    have hi := lt_of_get h3
    simp at hi; subst hi
    simp [Value.cells] at h3 h4; subst h3 h4
    constructor <;> assumption

theorem one_of {x : AV} {y : Value} (h : VR H ρ F w x y) (hc : okc x = true) : y.oneCell' = true := by
  cases h <;> first | rfl | (simp [okc] at hc; done) | (simpa [okc] using hc)

/-! Loads. -/
theorem loadVar_ok {t : TypeId} {cs : List AV} {o k q : Nat} {v : AV} (h : ldc P t cs o = some v)
    (hm : ∀ (j : Nat) x, cs[j]? = some x → ∃ y, w.cell? (at_ k (q + j)) = some y ∧ VR H ρ F w x y) : ∃ u, (loadVar t (at_ k (q + o))).run P w = .ok u w ∧ VR H ρ F w v u := by
  unfold ldc at h
  obtain ⟨ag, hag, h⟩ := Option.bind_eq_some_iff.1 h
  have hrd : ∀ j, j < cs.length → ∃ y, w.cell? (at_ k (q + j)) = some y ∧ VR H ρ F w (cs[j]?.getD .any) y := by
    intro j hj
    obtain ⟨y, h1, h2⟩ := hm j cs[j] (by simp [hj])
    exact ⟨y, h1, by simpa [hj] using h2⟩
  cases ag with
  | true =>
    simp only [if_true] at h
    obtain ⟨n, hn, h⟩ := Option.bind_eq_some_iff.1 h
    split at h
    · rename_i hle
      simp at h; subst h
      have hex : ∀ j, ∃ y, j < n → w.cell? (at_ k (q + o + j)) = some y ∧ VR H ρ F w (cs[o + j]?.getD .any) y := by
        intro j
        by_cases hj : j < n
        · obtain ⟨y, h1, h2⟩ := hrd (o + j) (by omega)
          exact ⟨y, fun _ => ⟨by rw [Nat.add_assoc]; exact h1, h2⟩⟩
        · exact ⟨.nilFunc, fun h => absurd h hj⟩
      obtain ⟨f, hf⟩ := Classical.axiomOfChoice hex
      have hl := run_loadCells (P := P) w (at_ k (q + o)) n f (fun j hj => by rw [add_at]; exact (hf j hj).1)
      refine ⟨.agg _, by simp only [loadVar, Sem.run_bind, run_isAgg hag, Result.andThen_ok, if_true, run_sz hn]; rw [hl]; rfl, ?_⟩
      refine .agg (by simp; omega) fun i x y hx hy => ?_
      have hi := lt_of_get hx
      have hin : i < n := by simp at hi; omega
      rw [List.getElem?_take_of_lt hin, List.getElem?_drop] at hx
      have hy' : y = f i := by
        simp only [List.getElem?_toArray, List.getElem?_map, List.getElem?_range hin, Option.map_some, Option.some.injEq] at hy
        exact hy.symm
      rw [hy']
      have := (hf i hin).2
      rw [hx] at this; exact this
    · simp at h
  | false =>
    simp only [Bool.false_eq_true, if_false] at h
    obtain ⟨y, h1, h2⟩ := hm o v h
    exact ⟨y, by simp only [loadVar, Sem.run_bind, run_isAgg hag, Result.andThen_ok, Bool.false_eq_true, if_false, run_load, h1], h2⟩

theorem load_ok (I : Inv base H ρ F w) {t : TypeId} {x v : AV} {y : Value} (hx : VR H ρ F w x y) (h : aload P H t x = some v) : ∃ u, (Instr.loadAt t y).run P w = .ok u w ∧ VR H ρ F w v u := by
  cases hx <;> simp only [aload] at h <;> first | (simp at h; done) | skip
  · rename_i cs o blk off rd hm hv
    simp only [Instr.loadAt, Instr.sureAddr, Sem.run_bind, Sem.run_pure, Result.andThen_ok]
    exact loadVar_ok h fun j x hj => ⟨rd j, (hm j x hj).1, hv j x hj⟩
  · rename_i b o a hb hl
    obtain ⟨cs, hc, h⟩ := Option.bind_eq_some_iff.1 h
    rw [hl cs hc]
    simp only [Instr.loadAt, Instr.sureAddr, Sem.run_bind, Sem.run_pure, Result.andThen_ok]
    exact loadVar_ok h fun j x hj => I.val b cs j x hc hj

/-! Stores. -/
structure After (base : Nat) (H : Hp) (ρ : Nat → Loc) (F : Nat → Nat → Prop) (w : World) (H' : Hp) (ρ' : Nat → Loc) (F' : Nat → Nat → Prop) (w' : World) : Prop where
  inv : Inv base H' ρ' F' w'
  step : Step H ρ F w H' ρ' F' w'
  below : Below base w w'
  fnew : ∀ k o, F' k o → F k o ∨ base ≤ k

theorem After.refl (I : Inv base H ρ F w) : After base H ρ F w H ρ F w := ⟨I, .refl _ _ _ _, .refl _ _, fun _ _ h => .inl h⟩
theorem After.trans {H1 : Hp} {ρ1 : Nat → Loc} {F1 : Nat → Nat → Prop} {w1 : World} {H2 : Hp} {ρ2 : Nat → Loc} {F2 : Nat → Nat → Prop} {w2 : World}
    (a : After base H ρ F w H1 ρ1 F1 w1) (b : After base H1 ρ1 F1 w1 H2 ρ2 F2 w2) : After base H ρ F w H2 ρ2 F2 w2 :=
  ⟨b.inv, a.step.trans b.step, a.below.trans b.below, fun k o h => by
    rcases b.fnew k o h with h | h
    · exact a.fnew k o h
    · exact .inr h⟩

theorem toList_get {α : Type} (a : Array α) (i : Nat) : a.toList[i]? = a[i]? := by simp

theorem store_ok (I : Inv base H ρ F w) {t : TypeId} {x v : AV} {y u : Value} (hx : VR H ρ F w x y) (hv : VR H ρ F w v u) {H' : Hp} (h : astore P H t x v = some H') :
    ∃ w', (Instr.storeAt t y u).run P w = .ok () w' ∧ After base H ρ F w H' ρ F w' := by
  cases hx <;> simp only [astore] at h <;> first | (simp at h; done) | skip
  rename_i b o a hb hl
  obtain ⟨cs, hc, h⟩ := Option.bind_eq_some_iff.1 h
  obtain ⟨ys, hy, h⟩ := Option.bind_eq_some_iff.1 h
  obtain ⟨n, hn, h⟩ := Option.bind_eq_some_iff.1 h
  split at h
  case isFalse => simp at h
  rename_i h0
  obtain ⟨h1, h2, h3⟩ := h0
  simp only [Option.some.injEq] at h
  subst h
  replace h3 := List.all_eq_true.1 h3
  obtain ⟨e1, e2⟩ := cells_of hv hy
  rw [hl cs hc]
  obtain ⟨b1, b2, b3⟩ := I.blk b cs hc
  have hone : ∀ d ∈ u.cells.toList, d.oneCell' = true := by
    intro d hd
    obtain ⟨i, hi, rfl⟩ := List.getElem_of_mem hd
    simp only [Array.length_toList] at hi
    have hlt : i < ys.length := by omega
    have := e2 i ys[i] (u.cells[i]) (by simp [hlt]) (by simp [hi])
    have ho := one_of this (h3 _ (List.getElem_mem hlt))
    simpa using ho
  obtain ⟨w', hr, hw⟩ := storeCells_wrote P u.cells.toList w (ρ b).blk ((ρ b).off + o) 0 (fun j hj => by
    simp only [Array.length_toList] at hj
    have := I.mem b cs hc (o + j) (by omega)
    rw [Nat.add_zero, Nat.add_assoc]; exact this) hone
  rw [Nat.add_zero] at hw
  obtain ⟨i1, i2, i3⟩ := I.write hc hw (xs := ys) (by simp [e1]) (by omega) h3 (fun i c d hc hd => e2 i c d hc (by rw [← hd]; simp))
  refine ⟨w', ?_, ⟨i1, i2, i3, fun _ _ h => .inl h⟩⟩
  simp only [Instr.storeAt, Instr.sureAddr, Sem.run_bind, Sem.run_pure, Result.andThen_ok, storeVar, run_sz hn]
  rw [if_neg (by omega)]
  exact hr

/-! New blocks. -/
theorem newVar_ok (I : Inv base H ρ F w) (t : TypeId) {cs : List AV} {y : Value} (hl : cs.length = y.cells.size) (hone : ∀ x ∈ cs, okc x = true) (hv : ∀ (i : Nat) c d, cs[i]? = some c → y.cells[i]? = some d → VR H ρ F w c d) :
    ∃ u w' ρ', ((do Pure.pure (Value.pointer (some (← newVar t y)))) : Sem Value).run P w = .ok u w' ∧ After base H ρ F w (H.new cs) ρ' F w' ∧ VR (H.new cs) ρ' F w' (.ptr H.g 0) u := by
  obtain ⟨i1, i2⟩ := I.alloc (H0 := H) (fun _ _ h => h) rfl (cs := cs) (ys := y.cells) t (by omega) hone hv
  refine ⟨.pointer (some (at_ w.heap.size 0)), w.alloc (.cells y.cells t), _, ?_, ⟨i1, i2, (Below.refl _ _).alloc I.base _, fun _ _ h => .inl h⟩, ?_⟩
  · simp [newVar, newRow]
  · exact .ptr (by simp) fun c hc => by simp [setρ]

theorem alloc_ok (I : Inv base H ρ F w) {t : TypeId} {z : List AV} (h : zeroOf P t = some z) :
    ∃ u w' ρ', (Instr.alloc t true (.tuple #[])).run P w = .ok u w' ∧ After base H ρ F w (H.new z) ρ' F w' ∧ VR (H.new z) ρ' F w' (.ptr H.g 0) u := by
  obtain ⟨y, hy, rfl, hs, hone⟩ := run_zero h
  obtain ⟨u, w', ρ', h1, h2, h3⟩ := newVar_ok (P := P) I t (cs := y.cells.toList.map .v) (y := y) (by simp) (fun x hx => by obtain ⟨c, hc, rfl⟩ := List.mem_map.1 hx; exact hone c hc) (fun i c d hc hd => by
    rw [List.getElem?_map, toList_get, hd] at hc; simp at hc; subst hc; exact .v)
  exact ⟨u, w', ρ', by simp only [Instr.alloc, Sem.run_bind, hy, Result.andThen_ok]; exact h1, h2, h3⟩

theorem box_ok (I : Inv base H ρ F w) (t : TypeId) {x : AV} {y : Value} (hx : VR H ρ F w x y) {cs : List AV} (h : asCells x = some cs) (hone : ∀ x ∈ cs, okc x = true) :
    ∃ u w' ρ', (Instr.box t y).run P w = .ok u w' ∧ After base H ρ F w (H.new cs) ρ' F w' ∧ VR (H.new cs) ρ' F w' (.ptr H.g 0) u := by
  obtain ⟨e1, e2⟩ := cells_of hx h
  exact newVar_ok I t e1 hone e2

/-! Composite values. -/
theorem foldl_setAll (vs : List Value) : ∀ (cs : Array Value) (off j0 : Nat), off + j0 + vs.length ≤ cs.size → ((vs.zipIdx j0).foldl (fun (cs : Array Value) (p : Value × Nat) => cs.setIfInBounds (off + p.2) p.1) cs).size = cs.size ∧
    ∀ i, ((vs.zipIdx j0).foldl (fun (cs : Array Value) (p : Value × Nat) => cs.setIfInBounds (off + p.2) p.1) cs)[i]? = if off + j0 ≤ i ∧ i < off + j0 + vs.length then vs[i - (off + j0)]? else cs[i]? := by
  induction vs with
  | nil => intro cs off j0 _; exact ⟨rfl, fun i => by rw [if_neg (by rintro ⟨h1, h2⟩; simp at h2; omega)]; rfl⟩
  | cons v vs ih =>
    intro cs off j0 h
    simp only [List.length_cons] at h
    simp only [List.zipIdx_cons, List.foldl_cons]
    obtain ⟨h1, h2⟩ := ih (cs.setIfInBounds (off + j0) v) off (j0 + 1) (by simp; omega)
    refine ⟨by rw [h1]; simp, fun i => ?_⟩
    rw [h2]
    by_cases he : i = off + j0
    · subst he
      rw [if_neg (by omega), if_pos (by simp)]
      simp [show off + j0 < cs.size by omega]
    · by_cases hr : off + (j0 + 1) ≤ i ∧ i < off + (j0 + 1) + vs.length
      · rw [if_pos hr, if_pos (by simp; omega)]
        obtain ⟨d, hd⟩ : ∃ d, i - (off + j0) = d + 1 := ⟨i - (off + j0) - 1, by omega⟩
        rw [hd, show i - (off + (j0 + 1)) = d by omega]; simp
      · rw [if_neg hr, if_neg (by simp; omega), Array.getElem?_setIfInBounds_ne (Ne.symm he)]

theorem fill_ok {place : Nat → Option (Nat × Nat)} (ps : List (Nat × AV)) : ∀ (qs : List (Nat × Value)) (cs : List AV) (ds : Array Value) (cs' : List AV),
    qs.map (·.1) = ps.map (·.1) → (∀ (i : Nat) p q, ps[i]? = some p → qs[i]? = some q → VR H ρ F w p.2 q.2) →
    cs.length = ds.size → (∀ (i : Nat) c d, cs[i]? = some c → ds[i]? = some d → VR H ρ F w c d) → afill place cs ps = some cs' →
    ∃ ds', Instr.fill place ds qs = some ds' ∧ cs'.length = ds'.size ∧ (∀ (i : Nat) c d, cs'[i]? = some c → ds'[i]? = some d → VR H ρ F w c d) := by
  induction ps with
  | nil =>
    intro qs cs ds cs' hq _ hl hv h
    have : qs = [] := by simpa using hq
    subst this
    simp [afill] at h; subst h
    exact ⟨ds, rfl, hl, hv⟩
  | cons p ps ih =>
    intro qs cs ds cs' hq hr hl hv h
    obtain ⟨i, x⟩ := p
    cases qs with
    | nil => simp at hq
    | cons q qs =>
      obtain ⟨i', y⟩ := q
      simp only [List.map_cons, List.cons.injEq] at hq
      obtain ⟨rfl, hq⟩ := hq
      simp only [afill] at h
      obtain ⟨⟨o, n⟩, hp, h⟩ := Option.bind_eq_some_iff.1 h
      obtain ⟨ys, hy, h⟩ := Option.bind_eq_some_iff.1 h
      split at h
      · rename_i hc
        obtain ⟨hc1, hc2⟩ := hc
        have hxy : VR H ρ F w x y := hr 0 (i', x) (i', y) rfl rfl
        obtain ⟨e1, e2⟩ := cells_of hxy hy
        obtain ⟨g1, g2⟩ := foldl_setAll y.cells.toList ds o 0 (by simp; omega)
        have hfold : Array.foldl (fun (cs : Array Value) (p : Value × Nat) => cs.setIfInBounds (o + p.2) p.1) ds y.cells.zipIdx = (y.cells.toList.zipIdx).foldl (fun (cs : Array Value) (p : Value × Nat) => cs.setIfInBounds (o + p.2) p.1) ds := by
          rw [← Array.foldl_toList]; simp
        obtain ⟨ds', k1, k2, k3⟩ := ih qs (setAll cs o ys) (Array.foldl (fun (cs : Array Value) (p : Value × Nat) => cs.setIfInBounds (o + p.2) p.1) ds y.cells.zipIdx) cs' hq
          (fun j p q hp hq => hr (j + 1) p q (by simpa using hp) (by simpa using hq)) (by rw [setAll_length, hfold, g1]; exact hl) (fun j c d hc hd => by
            rw [hfold, g2] at hd
            rw [setAll_get _ _ _ _ (by omega)] at hc
            simp only [Nat.add_zero, Array.length_toList] at hd
            split at hc
            · rename_i hin
              rw [if_pos (by omega)] at hd
              exact e2 (j - o) c d hc (by rw [← hd]; simp)
            · rename_i hin
              rw [if_neg (by omega)] at hd
              exact hv j c d hc hd) h
        refine ⟨ds', ?_, k2, k3⟩
        simp only [Instr.fill, hp]
        rw [if_neg (by simp; omega)]
        exact k1
      · simp at h
end
end Go.Proofs.YtnejoidfbgklbaaGreatDoor.Eng
