/- The engine, part 5: composite values, comparisons, conversions, addresses, slices. -/
import Derived.Test.YtnejoidfbgklbaaGreatDoorE4
import Derived.Laws.StructEq
import Derived.Laws.BytesString
namespace Go.Proofs.YtnejoidfbgklbaaGreatDoor.Eng
open Go Go.RowKit
set_option linter.unusedSimpArgs false
set_option linter.unusedVariables false

section
variable {P : Program} {base : Nat} {H : Hp} {ρ : Nat → Loc} {F : Nat → Nat → Prop} {w : World}

theorem run_mapM_list {α β : Type} (g : α → Sem β) (h : α → Option β) (w : World) : ∀ (l : List α) (r : List β), (∀ x b, h x = some b → (g x).run P w = .ok b w) → l.mapM h = some r → (l.mapM g).run P w = .ok r w := by
  intro l
  induction l with
  | nil => intro r _ e; simp at e; subst e; simp
  | cons x l ih =>
    intro r hg e
    simp only [List.mapM_cons, Option.bind_eq_bind, Option.bind_eq_some_iff, Option.pure_def, Option.some.injEq] at e
    obtain ⟨b, hb, r', hr, rfl⟩ := e
    simp only [List.mapM_cons, Sem.run_bind, hg x b hb, Result.andThen_ok, ih r' hg hr, Sem.run_pure]

theorem parts_get {e : Env} {a : Act} (h : EnvR H ρ F w e a) (ps : Array (Nat × Operand)) :
    ((ps.map fun (x : Nat × Operand) => (x.1, a.eval x.2)).toList.map (·.1) = (aparts e ps).map (·.1)) ∧
    ∀ (i : Nat) p q, (aparts e ps)[i]? = some p → (ps.map fun (x : Nat × Operand) => (x.1, a.eval x.2)).toList[i]? = some q → VR H ρ F w p.2 q.2 := by
  constructor
  · simp [aparts]
  · intro i p q hp hq
    simp only [aparts, List.getElem?_map, Option.map_eq_some_iff] at hp
    obtain ⟨z, hz, rfl⟩ := hp
    rw [toList_get, Array.getElem?_map, ← toList_get, hz] at hq
    simp at hq; subst hq
    exact h.opd z.2

theorem VR.cellsV {l : List Value} {ys : Array Value} (h : l = ys.toList) : ∀ (i : Nat) c d, (l.map AV.v)[i]? = some c → ys[i]? = some d → VR H ρ F w c d := by
  intro i c d hc hd
  rw [List.getElem?_map, h, toList_get, hd] at hc
  simp at hc; subst hc; exact .v

theorem arr_spec {t : TypeId} {n : Nat} {el : TypeId} (h : arrOf? P t = some (n, el)) : P.underlying t = some (.array n el) := by
  unfold arrOf? at h; split at h <;> simp at h
  obtain ⟨rfl, rfl⟩ := h; assumption
theorem elem_spec {t el : TypeId} (h : elemOf? P t = some el) : P.underlying t = some (.slice el) := by
  unfold elemOf? at h; split at h <;> simp at h
  subst h; assumption

theorem build_ok {e : Env} {a : Act} (h : EnvR H ρ F w e a) {t : TypeId} {ps : Array (Nat × Operand)} {v : AV} (hb : abuild P t (aparts e ps) = some v) :
    ∃ u, (Instr.build t (ps.map fun (x : Nat × Operand) => (x.1, a.eval x.2))).run P w = .ok u w ∧ VR H ρ F w v u := by
  unfold abuild at hb
  obtain ⟨z, hz, hb⟩ := Option.bind_eq_some_iff.1 hb
  obtain ⟨y, hy, rfl, -, -⟩ := run_zero hz
  obtain ⟨p1, p2⟩ := parts_get h ps
  split at hb
  · rename_i n el ha
    obtain ⟨sz, hs, hb⟩ := Option.bind_eq_some_iff.1 hb
    obtain ⟨cs, hf, rfl⟩ := Option.map_eq_some_iff.1 hb
    obtain ⟨ds, f1, f2, f3⟩ := fill_ok _ _ _ y.cells _ p1 p2 (by simp) (VR.cellsV rfl) hf
    exact ⟨.agg ds, by simp only [Instr.build, Sem.run_bind, hy, Result.andThen_ok, run_und (arr_spec ha), run_sz hs, f1, Sem.run_pure], .agg f2 f3⟩
  · obtain ⟨pl, hp, hb⟩ := Option.bind_eq_some_iff.1 hb
    obtain ⟨cs, hf, rfl⟩ := Option.map_eq_some_iff.1 hb
    obtain ⟨ds, f1, f2, f3⟩ := fill_ok _ _ _ y.cells _ p1 p2 (by simp) (VR.cellsV rfl) hf
    unfold placesOf at hp
    split at hp
    · rename_i fs hu
      have hm := run_mapM_list (P := P) (fun f : Field => (do Pure.pure (f.offset, ← sizeOf f.type) : Sem (Nat × Nat))) _ w fs.toList pl (fun f b hf => by
        obtain ⟨n, hn, rfl⟩ := Option.map_eq_some_iff.1 hf
        simp [run_sz hn]) hp
      refine ⟨.agg ds, ?_, .agg f2 f3⟩
      simp only [Instr.build, Sem.run_bind, hy, Result.andThen_ok, run_und hu]
      rw [Array.mapM_eq_mapM_toList]
      simp only [Sem.run_map, hm, Result.andThen_ok]
      have : (fun i : Nat => (pl.toArray)[i]?) = fun i : Nat => pl[i]? := by funext i; simp
      simp only [this, f1, Sem.run_pure]
    · simp at hp

theorem zeros_get (z : List AV) : ∀ (n i : Nat), (zeros n z)[i]? = if i < n * z.length then z[i % z.length]? else none := by
  intro n
  induction n with
  | zero => intro i; simp [zeros]
  | succ n ih =>
    intro i
    have hz : zeros (n + 1) z = z ++ zeros n z := by simp [zeros, List.replicate_succ]
    rw [hz, List.getElem?_append]
    split
    · rename_i h
      rw [if_pos (by rw [Nat.add_mul]; omega), Nat.mod_eq_of_lt h]
    · rename_i h
      rw [ih]
      by_cases h0 : z.length = 0
      · simp [h0]
      · by_cases hlt : i - z.length < n * z.length
        · rw [if_pos hlt, if_pos (by rw [Nat.add_mul]; omega), Nat.mod_eq_sub_mod (by omega : z.length ≤ i)]
        · rw [if_neg hlt, if_neg (by rw [Nat.add_mul]; omega)]
theorem zeros_length (z : List AV) (n : Nat) : (zeros n z).length = n * z.length := by
  simp [zeros]

theorem madeCells_vr {y : Value} (n : Nat) : ∀ (i : Nat) c d, (zeros n (y.cells.toList.map .v))[i]? = some c → ((Array.range (n * y.cells.size)).map (fun i => y.cells[i % y.cells.size]!))[i]? = some d → VR H ρ F w c d := by
  intro i c d hc hd
  rw [zeros_get] at hc
  simp only [List.length_map, Array.length_toList] at hc
  split at hc
  · rename_i hlt
    have h0 : 0 < y.cells.size := by
      rcases Nat.eq_zero_or_pos y.cells.size with h | h
      · rw [h] at hlt; simp at hlt
      · exact h
    have hm := Nat.mod_lt i h0
    simp [hlt, hm] at hd
    simp [hm] at hc
    subst hc hd; exact .v
  · simp at hc

theorem chunk_get (sz : Nat) : ∀ (n : Nat) (cs : List AV) (i j : Nat), cs.length = n * sz → get2 (chunk sz n cs) i j = if i < n ∧ j < sz then cs[i * sz + j]? else none := by
  intro n
  induction n with
  | zero => intro cs i j _; simp [chunk, get2]
  | succ n ih =>
    intro cs i j h
    rw [Nat.add_mul, Nat.one_mul] at h
    cases i with
    | zero =>
      simp only [chunk, get2, List.getElem?_cons_zero, Option.bind_some, Nat.zero_mul, Nat.zero_add]
      by_cases hj : j < sz
      · rw [if_pos ⟨by omega, hj⟩, List.getElem?_take_of_lt hj]
      · rw [if_neg (by omega), List.getElem?_take]; simp [hj]
    | succ i =>
      have := ih (cs.drop sz) i j (by simp; omega)
      simp only [chunk, get2, List.getElem?_cons_succ] at this ⊢
      rw [this]
      by_cases hij : i < n ∧ j < sz
      · rw [if_pos hij, if_pos ⟨by omega, hij.2⟩, List.getElem?_drop, Nat.add_mul]; congr 1; omega
      · rw [if_neg hij, if_neg (by omega)]
theorem chunk_length (sz : Nat) : ∀ (n : Nat) (cs : List AV), (chunk sz n cs).length = n := by
  intro n
  induction n with
  | zero => intro cs; rfl
  | succ n ih => intro cs; simp [chunk, ih]
theorem chunk_lens (sz : Nat) : ∀ (n : Nat) (cs : List AV), cs.length = n * sz → ∀ x ∈ chunk sz n cs, x.length = sz := by
  intro n
  induction n with
  | zero => intro cs _ x hx; simp [chunk] at hx
  | succ n ih =>
    intro cs h x hx
    rw [Nat.add_mul, Nat.one_mul] at h
    simp only [chunk, List.mem_cons] at hx
    rcases hx with rfl | hx
    · simp; omega
    · exact ih (cs.drop sz) (by simp; omega) x hx

/-- A row of cells that is only read, as a list. -/
theorem VR.lstOf {cs : List AV} {sz n k q c : Nat} (hl : cs.length = n * sz) (hc : n ≤ c) {fu : Bool} (hf : fu = true → c = n) (ho : ∀ x ∈ cs, okc x = true)
    (hm : ∀ (i : Nat) x, cs[i]? = some x → ∃ y, w.cell? (at_ k (q + i)) = some y ∧ F k (q + i) ∧ VR H ρ F w x y) : VR H ρ F w (.lst fu (chunk sz n cs)) (.slice (some (at_ k q)) n c) := by
  cases n with
  | zero => exact .lst0 (fun h => hf h)
  | succ n =>
    have hch : ∀ i : Nat, ∃ y, ∀ x, cs[i]? = some x → w.cell? (at_ k (q + i)) = some y ∧ F k (q + i) ∧ VR H ρ F w x y := by
      intro i
      cases hx : cs[i]? with
      | none => exact ⟨.nilFunc, fun x h => by simp at h⟩
      | some x => obtain ⟨y, h⟩ := hm i x hx; exact ⟨y, fun x' h' => by simp at h'; subst h'; exact h⟩
    obtain ⟨rd, hrd⟩ := Classical.axiomOfChoice hch
    have hlen := chunk_length sz (n + 1) cs
    rw [show (n + 1) = (chunk sz (n + 1) cs).length from hlen.symm] at hc ⊢
    have hsl : VR H ρ F w (.lst fu (chunk sz (n + 1) cs)) (.slice (some (at_ k q)) (chunk sz (n + 1) cs).length c) := by
      refine .lst (sz := sz) (fun i j => rd (i * sz + j)) (by simp [chunk]) (chunk_lens sz _ _ hl) (fun h => by rw [hlen]; exact hf h) hc (fun i j x hx => ?_) (fun i j x hx => ?_) (fun i j x hx => ?_)
      · rw [chunk_get sz _ _ _ _ hl] at hx
        split at hx
        · exact ho x (List.mem_of_getElem? hx)
        · simp at hx
      · rw [chunk_get sz _ _ _ _ hl] at hx
        split at hx
        · have := hrd (i * sz + j) x hx; exact ⟨this.1, this.2.1⟩
        · simp at hx
      · rw [chunk_get sz _ _ _ _ hl] at hx
        split at hx
        · exact (hrd (i * sz + j) x hx).2.2
        · simp at hx
    simpa only [hlen] using hsl

/-- A slice literal. -/
theorem buildSlice_real (_I : Inv base H ρ F w) {e : Env} {a : Act} (h : EnvR H ρ F w e a) {t : TypeId} {n : Nat} {ps : Array (Nat × Operand)} {cs : List AV} {sz : Nat} (hb : abuildSlice P t n (aparts e ps) = some (cs, sz)) :
    ∃ (ds : Array Value) (el : TypeId), (Instr.buildSlice t n (ps.map fun (x : Nat × Operand) => (x.1, a.eval x.2))).run P w = .ok (.slice (some (at_ w.heap.size 0)) n n) (w.alloc (.cells ds el)) ∧
      cs.length = ds.size ∧ cs.length = n * sz ∧ (∀ (i : Nat) c d, cs[i]? = some c → ds[i]? = some d → VR H ρ F w c d) := by
  unfold abuildSlice at hb
  obtain ⟨el, he, hb⟩ := Option.bind_eq_some_iff.1 hb
  obtain ⟨z, hz, hb⟩ := Option.bind_eq_some_iff.1 hb
  split at hb
  case isFalse => simp at hb
  rename_i hsmall
  obtain ⟨cs', hf, heq⟩ := Option.map_eq_some_iff.1 hb
  simp only [Prod.mk.injEq] at heq
  obtain ⟨rfl, rfl⟩ := heq
  obtain ⟨y, hy, rfl, hs, -⟩ := run_zero hz
  obtain ⟨p1, p2⟩ := parts_get h ps
  simp only [List.length_map, Array.length_toList] at hsmall hf ⊢
  have hzc : n * y.cells.size = 0 → (Array.range (n * y.cells.size)).map (fun i => (#[] : Array Value)[i % (#[] : Array Value).size]!) = (Array.range (n * y.cells.size)).map (fun i => y.cells[i % y.cells.size]!) := fun h0 => by rw [h0]; simp
  obtain ⟨ds, f1, f2, f3⟩ := fill_ok (H := H) (ρ := ρ) (F := F) (w := w) _ _ _ ((Array.range (n * y.cells.size)).map (fun i => y.cells[i % y.cells.size]!)) _ p1 p2 (by simp [zeros_length]) (madeCells_vr n) hf
  refine ⟨ds, el, ?_, f2, ?_, f3⟩
  · simp only [Instr.buildSlice, Sem.run_bind, run_und (elem_spec he), Result.andThen_ok, run_sz hs]
    rw [if_neg (by omega)]
    by_cases h0 : n * y.cells.size = 0
    · rw [if_pos h0]
      simp only [Sem.run_pure, Result.andThen_ok, Sem.run_bind, hzc h0, f1]
      simp [newRow]
    · rw [if_neg h0]
      simp only [Sem.run_pure, Result.andThen_ok, Sem.run_bind, hy, f1]
      simp [newRow]
  · have hlen : ∀ (ps : List (Nat × AV)) (cs cs' : List AV) (place : Nat → Option (Nat × Nat)), afill place cs ps = some cs' → cs'.length = cs.length := by
      intro ps
      induction ps with
      | nil => intro cs cs' place h; simp [afill] at h; rw [h]
      | cons p ps ih =>
        intro cs cs' place h
        obtain ⟨i, x⟩ := p
        simp only [afill] at h
        obtain ⟨⟨o, m⟩, -, h⟩ := Option.bind_eq_some_iff.1 h
        obtain ⟨ys, -, h⟩ := Option.bind_eq_some_iff.1 h
        split at h
        · rw [ih _ _ _ h, setAll_length]
        · simp at h
    rw [hlen _ _ _ _ hf, zeros_length]; simp
end
end Go.Proofs.YtnejoidfbgklbaaGreatDoor.Eng
