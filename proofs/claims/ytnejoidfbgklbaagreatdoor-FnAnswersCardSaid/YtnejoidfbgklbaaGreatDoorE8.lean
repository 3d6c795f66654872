/- The engine, part 8: make, append, copy, clear and the other builtins. -/
import Derived.Test.YtnejoidfbgklbaaGreatDoorE7
namespace Go.Proofs.YtnejoidfbgklbaaGreatDoor.Eng
open Go Go.RowKit
set_option linter.unusedSimpArgs false
set_option linter.unusedVariables false

section
variable {P : Program} {base : Nat} {H : Hp} {ρ : Nat → Loc} {F : Nat → Nat → Prop} {w : World}

theorem run_firstCells_zero (sz : Nat) (a : Option Addr) (l c : Nat) (w : World) : (Builtin.firstCells sz 0 (.slice a l c)).run P w = .ok #[] w := by
  cases a with
  | none => simp [Builtin.firstCells]
  | some a => simp [Builtin.firstCells, loadCells, loadCellsFrom]


theorem first_ok (I : Inv base H ρ F w) {sz n : Nat} {x : AV} {y : Value} (hx : VR H ρ F w x y) {cs : List AV} (h : afirst H sz n x = some cs) :
    ∃ vals : List Value, cs.length = vals.length ∧ vals.length = n * sz ∧ (∀ c ∈ cs, okc c = true) ∧ (∀ (i : Nat) c d, cs[i]? = some c → vals[i]? = some d → VR H ρ F w c d) ∧
      ∀ w2 : World, (∀ a, w2.cell? a = w.cell? a) → (Builtin.firstCells sz n y).run P w2 = .ok vals.toArray w2 := by
  have fromMem : ∀ (k q l c : Nat), cs.length = n * sz → (∀ (i : Nat) c, cs[i]? = some c → okc c = true ∧ ∃ z, w.cell? (at_ k (q + i)) = some z ∧ VR H ρ F w c z) → y = .slice (some (at_ k q)) l c →
      ∃ vals : List Value, cs.length = vals.length ∧ vals.length = n * sz ∧ (∀ c ∈ cs, okc c = true) ∧ (∀ (i : Nat) c d, cs[i]? = some c → vals[i]? = some d → VR H ρ F w c d) ∧
        ∀ w2 : World, (∀ a, w2.cell? a = w.cell? a) → (Builtin.firstCells sz n y).run P w2 = .ok vals.toArray w2 := by
    rintro k q l c hl hm rfl
    have hch : ∀ i : Nat, ∃ z, ∀ c, cs[i]? = some c → w.cell? (at_ k (q + i)) = some z ∧ VR H ρ F w c z := by
      intro i
      cases hc : cs[i]? with
      | none => exact ⟨.nilFunc, fun x h => by simp at h⟩
      | some x => obtain ⟨-, z, h1, h2⟩ := hm i x hc; exact ⟨z, fun x' h' => by simp at h'; subst h'; exact ⟨h1, h2⟩⟩
    obtain ⟨f, hf⟩ := Classical.axiomOfChoice hch
    have hg : ∀ (i : Nat) d, ((List.range cs.length).map f)[i]? = some d → i < cs.length ∧ d = f i := by
      intro i d hd
      have hi := lt_of_get hd
      simp only [List.length_map, List.length_range] at hi
      rw [List.getElem?_map, List.getElem?_range hi] at hd
      exact ⟨hi, by simpa using hd.symm⟩
    refine ⟨(List.range cs.length).map f, by simp, by simp [hl], fun c hc => ?_, fun i c d hc hd => ?_, fun w2 hw => ?_⟩
    · obtain ⟨i, hi⟩ := List.mem_iff_getElem?.1 hc; exact (hm i c hi).1
    · rw [(hg i d hd).2]; exact (hf i c hc).2
    · refine run_firstCells_some (P := P) w2 sz n (at_ k q) l c _ (by simp [hl]) fun j v hj => ?_
      obtain ⟨h1, rfl⟩ := hg j v hj
      rw [add_at, hw]; exact (hf j cs[j] (by simp [h1])).1
  unfold afirst at h
  split at h
  · rename_i l c
    cases hx
    simp only [Option.ite_none_right_eq_some, Option.some.injEq] at h
    obtain ⟨rfl, rfl⟩ := h
    exact ⟨[], rfl, by simp, by simp, by simp, fun w2 _ => run_firstCells_zero _ _ _ _ _⟩
  · cases hx
    simp only [Option.ite_none_right_eq_some, Option.some.injEq] at h
    obtain ⟨rfl, rfl⟩ := h
    exact ⟨[], rfl, by simp, by simp, by simp, fun w2 _ => run_firstCells_zero _ _ _ _ _⟩
  · rename_i s
    cases hx
    simp only [Option.ite_none_right_eq_some, Option.some.injEq] at h
    obtain ⟨⟨rfl, hn⟩, rfl⟩ := h
    refine ⟨(s.data.toList.take n).map fun b => .int .u8 b.toNat, by simp, by simp; omega, fun c hc => ?_, fun i c d hc hd => ?_, fun w2 _ => ?_⟩
    · obtain ⟨b, -, rfl⟩ := List.mem_map.1 hc; rfl
    · rw [List.getElem?_map] at hc hd
      obtain ⟨b, hb, rfl⟩ := Option.map_eq_some_iff.1 hc
      rw [hb] at hd; simp at hd; subst hd; exact .v
    · simp only [Builtin.firstCells, Sem.run_pure]
      congr 1
      apply Array.ext'
      simp [ByteArray.data_extract]
  · rename_i fu xs
    simp only [Option.ite_none_right_eq_some, Option.some.injEq] at h
    obtain ⟨⟨hn, hall⟩, rfl⟩ := h
    have hel : ∀ c ∈ xs.take n, c.length = sz := fun c hc => by simpa using List.all_eq_true.1 hall c hc
    by_cases h0 : n = 0
    · subst h0
      refine ⟨[], by simp, by simp, by simp, by simp, fun w2 _ => ?_⟩
      cases hx <;> exact run_firstCells_zero _ _ _ _ _
    · have hne : xs ≠ [] := by intro e; subst e; simp at hn; omega
      obtain ⟨blk, off, c, sz', rfl, -, -, hs, hcells⟩ := lst_cells hx hne
      have hlen := flat_length (xs.take n) hel
      have hpre : ∀ (i : Nat) c, (xs.take n).flatten[i]? = some c → xs.flatten[i]? = some c := by
        intro i c hc
        have : xs.flatten = (xs.take n).flatten ++ (xs.drop n).flatten := by rw [← List.flatten_append, List.take_append_drop]
        rw [this, List.getElem?_append, if_pos (lt_of_get hc)]; exact hc
      refine fromMem blk off _ c (by rw [hlen, List.length_take, Nat.min_eq_left hn]) (fun i c hc => ?_) rfl
      obtain ⟨h1, z, h2, -, h3⟩ := hcells i c (hpre i c hc)
      exact ⟨h1, z, h2, h3⟩
  · rename_i b sz' o m
    simp only [Option.ite_none_right_eq_some, Option.bind_eq_some_iff, Option.some.injEq] at h
    obtain ⟨⟨rfl, hn⟩, cs', hcs, hle, rfl⟩ := h
    cases hx with
    | sl hb hs hnn =>
      rename_i ad c
      rcases hs cs' hcs with ⟨rfl, rfl, h3⟩ | ⟨rfl, h4, h5, h6⟩
      · have : n = 0 := by omega
        subst this
        exact ⟨[], by simp, by simp, by simp, by simp, fun w2 _ => run_firstCells_zero _ _ _ _ _⟩
      · refine fromMem (ρ b).blk ((ρ b).off + o) _ c (by simp; omega) (fun i c hc => ?_) rfl
        have hi := lt_of_get hc
        simp only [List.length_take, List.length_drop] at hi
        rw [List.getElem?_take_of_lt (by omega), List.getElem?_drop] at hc
        obtain ⟨y, h1, h2⟩ := I.val b cs' (o + i) c hcs hc
        exact ⟨I.one b cs' c hcs (List.mem_of_getElem? hc), y, by rw [Nat.add_assoc]; exact h1, h2⟩
  · simp at h

theorem len_ok {x : AV} {y : Value} (hx : VR H ρ F w x y) {n : Nat} (h : alen x = some n) (w2 : World) : (Builtin.lenOf y).run P w2 = .ok n w2 := by
  unfold alen at h
  split at h <;> simp only [Option.some.injEq, reduceCtorEq] at h <;> cases hx <;> subst h <;> rfl

theorem zeroCells_eq (y : Value) (n : Nat) : (Builtin.zeroCells y.cells n).size = n * y.cells.size ∧ (∀ (i : Nat) c d, (zeros n (y.cells.toList.map .v))[i]? = some c → (Builtin.zeroCells y.cells n)[i]? = some d → VR H ρ F w c d) :=
  ⟨by simp [Builtin.zeroCells], madeCells_vr n⟩

theorem zeros_okc {y : Value} (hone : ∀ c ∈ y.cells.toList, c.oneCell' = true) (n : Nat) : ∀ x ∈ zeros n (y.cells.toList.map .v), okc x = true := by
  intro x hx
  simp only [zeros, List.mem_flatten, List.mem_replicate] at hx
  obtain ⟨l, ⟨-, rfl⟩, hx⟩ := hx
  obtain ⟨c, hc, rfl⟩ := List.mem_map.1 hx
  exact hone c hc

/-- What is appended. -/
theorem appended_ok (I : Inv base H ρ F w) {el xt : TypeId} {z : List AV} (hz : zeroOf P el = some z) {x : AV} {y : Value} (hx : VR H ρ F w x y) {m : Nat} {cs : List AV} (h : aappended P H el z xt x = some (m, cs)) :
    ∃ vals : List Value, cs.length = vals.length ∧ vals.length = m * z.length ∧ (∀ c ∈ cs, okc c = true) ∧ (∀ (i : Nat) c d, cs[i]? = some c → vals[i]? = some d → VR H ρ F w c d) ∧
      ((intT P xt = some false ∧ (∀ w2, (Builtin.lenOf y).run P w2 = .ok m w2) ∧ ∀ w2 : World, (∀ a, w2.cell? a = w.cell? a) → (Builtin.firstCells z.length m y).run P w2 = .ok vals.toArray w2) ∨
       (intT P xt = some true ∧ ∃ k i, y = .int k i ∧ 0 ≤ i ∧ i ≤ 9223372036854775807 ∧ i.toNat = m ∧ ∃ zv : Value, (∀ w, (zeroValue el).run P w = .ok zv w) ∧ z.length = zv.cells.size ∧ vals = (Builtin.zeroCells zv.cells m).toList)) := by
  unfold aappended at h
  obtain ⟨b, hi, h⟩ := Option.bind_eq_some_iff.1 h
  cases b with
  | true =>
    simp only [if_true] at h
    simp only [Option.bind_eq_some_iff, Option.ite_none_right_eq_some, Option.some.injEq, Prod.mk.injEq] at h
    obtain ⟨m', hm, hle, rfl, rfl⟩ := h
    obtain ⟨k, i, rfl, h0, rfl⟩ := nat_spec hx hm
    obtain ⟨zv, hzv, rfl, -, hone⟩ := run_zero hz
    obtain ⟨e1, e2⟩ := zeroCells_eq (H := H) (ρ := ρ) (F := F) (w := w) zv i.toNat
    refine ⟨(Builtin.zeroCells zv.cells i.toNat).toList, by simp [zeros_length, e1], by simp [e1], zeros_okc hone _, fun j c d hc hd => e2 j c d hc (by rw [← hd]; simp), .inr ⟨hi, k, i, rfl, h0, by omega, rfl, zv, hzv, by simp, rfl⟩⟩
  | false =>
    simp only [Bool.false_eq_true, if_false] at h
    simp only [Option.bind_eq_some_iff, Option.map_eq_some_iff, Prod.mk.injEq] at h
    obtain ⟨m', hm, cs', hcs, rfl, rfl⟩ := h
    obtain ⟨vals, h1, h2, h3, h4, h5⟩ := first_ok (P := P) I hx hcs
    exact ⟨vals, h1, h2, h3, h4, .inl ⟨hi, len_ok hx hm, h5⟩⟩

theorem roomy_spec {n bytes : Nat} (h : roomy n bytes = true) : n * bytes ≤ 70368744177664 ∧ n ≤ 70368744177664 := by
  unfold roomy at h; simpa using h

/-- What 'appended' says of the real side. -/
def Appended (P : Program) (w : World) (xt el : TypeId) (sz m : Nat) (y : Value) (vals : List Value) : Prop :=
  (intT P xt = some false ∧ (∀ w2, (Builtin.lenOf y).run P w2 = .ok m w2) ∧ ∀ w2 : World, (∀ a, w2.cell? a = w.cell? a) → (Builtin.firstCells sz m y).run P w2 = .ok vals.toArray w2) ∨
  (intT P xt = some true ∧ ∃ k i, y = .int k i ∧ 0 ≤ i ∧ i ≤ 9223372036854775807 ∧ i.toNat = m ∧ ∃ zv : Value, (∀ w, (zeroValue el).run P w = .ok zv w) ∧ sz = zv.cells.size ∧ vals = (Builtin.zeroCells zv.cells m).toList)

theorem wrap_small {i : Int} (h0 : 0 ≤ i) (h1 : i ≤ 9223372036854775807) : IntKind.i64.wrap i = i := by
  simp only [IntKind.wrap, IntKind.signed, IntKind.bits]
  simp
  omega

theorem append_room {t xt ty el : TypeId} {sz bytes m : Nat} {y : Value} {vals : List Value} (ht : P.underlying t = some (.slice el)) (hsz : szOf P el = some sz) (hby : bytesOf P el = some bytes)
    (ha : Appended P w xt el sz m y vals) (hmb : m * bytes ≤ 70368744177664) {a : Addr} {n c : Nat} (hroom : n + m ≤ c) :
    (Builtin.append_ #[t, xt] ty #[.slice (some a) n c, y]).run P w = ((storeCells (a.add (n * sz)) vals).run P w).andThen fun _ w' => .ok (.slice (some a) (n + m) c) w' := by
  rcases ha with ⟨hint, hlen, hfirst⟩ | ⟨hint, k, i, rfl, h0, hi, rfl, zv, hzv, rfl, rfl⟩
  · obtain ⟨d, hd, hdb⟩ := Option.map_eq_some_iff.1 hint
    simp only [Builtin.append_, List.getElem?_toArray, List.getElem?_cons_zero, List.getElem?_cons_succ, Sem.run_bind, run_und ht, Result.andThen_ok, run_sz hsz, run_und hd]
    cases d <;> first | (simp [isIntD] at hdb; done) | (simp [hlen, hroom, hfirst w (fun _ => rfl)]; done)
  · obtain ⟨d, hd, hdb⟩ := Option.map_eq_some_iff.1 hint
    obtain ⟨i1, hi1, rfl⟩ := Option.map_eq_some_iff.1 hby
    have hw := wrap_small h0 hi
    have hneg : ¬ i < 0 := by omega
    have hb : ¬ (281474976710656 < i * (i1.bytes : Int)) := by
      have : ((i.toNat * i1.bytes : Nat) : Int) = i * i1.bytes := by rw [Int.natCast_mul, Int.toNat_of_nonneg h0]
      omega
    simp only [Builtin.append_, List.getElem?_toArray, List.getElem?_cons_zero, List.getElem?_cons_succ, Sem.run_bind, run_und ht, Result.andThen_ok, run_sz hsz, run_und hd]
    cases d <;> first | (simp [isIntD] at hdb; done) | skip
    by_cases hz : i.toNat * zv.cells.size = 0
    · have : (Builtin.zeroCells zv.cells i.toNat) = #[] := by
        apply Array.eq_empty_of_size_eq_zero
        simp [Builtin.zeroCells, hz]
      simp [asInt, asIntOf, hw, hneg, typeInfo, hi1, hb, hroom, hz, this]
    · simp [asInt, asIntOf, hw, hneg, typeInfo, hi1, hb, hroom, hz, hzv]

theorem append_room_none {t xt ty el : TypeId} {sz bytes m : Nat} {y : Value} {vals : List Value} (ht : P.underlying t = some (.slice el)) (hsz : szOf P el = some sz) (hby : bytesOf P el = some bytes)
    (ha : Appended P w xt el sz m y vals) (hmb : m * bytes ≤ 70368744177664) {n c : Nat} (hroom : n + m ≤ c) :
    (Builtin.append_ #[t, xt] ty #[.slice none n c, y]).run P w = .ok (.slice none (n + m) c) w := by
  rcases ha with ⟨hint, hlen, hfirst⟩ | ⟨hint, k, i, rfl, h0, hi, rfl, zv, hzv, rfl, rfl⟩
  · obtain ⟨d, hd, hdb⟩ := Option.map_eq_some_iff.1 hint
    simp only [Builtin.append_, List.getElem?_toArray, List.getElem?_cons_zero, List.getElem?_cons_succ, Sem.run_bind, run_und ht, Result.andThen_ok, run_sz hsz, run_und hd]
    cases d <;> first | (simp [isIntD] at hdb; done) | (simp [hlen, hroom, hfirst w (fun _ => rfl)]; done)
  · obtain ⟨d, hd, hdb⟩ := Option.map_eq_some_iff.1 hint
    obtain ⟨i1, hi1, rfl⟩ := Option.map_eq_some_iff.1 hby
    have hw := wrap_small h0 hi
    have hneg : ¬ i < 0 := by omega
    have hb : ¬ (281474976710656 < i * (i1.bytes : Int)) := by
      have : ((i.toNat * i1.bytes : Nat) : Int) = i * i1.bytes := by rw [Int.natCast_mul, Int.toNat_of_nonneg h0]
      omega
    simp only [Builtin.append_, List.getElem?_toArray, List.getElem?_cons_zero, List.getElem?_cons_succ, Sem.run_bind, run_und ht, Result.andThen_ok, run_sz hsz, run_und hd]
    cases d <;> first | (simp [isIntD] at hdb; done) | skip
    by_cases hz : i.toNat * zv.cells.size = 0
    · simp [asInt, asIntOf, hw, hneg, typeInfo, hi1, hb, hroom, hz]
    · simp [asInt, asIntOf, hw, hneg, typeInfo, hi1, hb, hroom, hz, hzv]

set_option maxHeartbeats 4000000 in
theorem append_grow {t xt ty el : TypeId} {sz bytes m : Nat} {y : Value} {vals : List Value} {zv : Value} (ht : P.underlying t = some (.slice el)) (hsz : szOf P el = some sz) (hby : bytesOf P el = some bytes)
    (hzv : ∀ w, (zeroValue el).run P w = .ok zv w) (ha : Appended P w xt el sz m y vals) {ad : Option Addr} {n c : Nat} (hgrow : c < n + m) (hnb : (n + m) * bytes ≤ 70368744177664) (hn : n + m ≤ 70368744177664)
    {olds : List Value} (ho : ∀ w2 : World, (∀ a, w2.cell? a = w.cell? a) → (Builtin.firstCells sz n (.slice ad n c)).run P w2 = .ok olds.toArray w2) :
    ∃ (cap : Nat) (rest : Array Value), n + m ≤ cap ∧ rest.size = (cap - (n + m)) * zv.cells.size ∧ (Builtin.append_ #[t, xt] ty #[.slice ad n c, y]).run P w = .ok (.slice (some (at_ w.heap.size 0)) (n + m) cap) (w.drew.alloc (.cells (olds.toArray ++ vals.toArray ++ rest) el)) := by
  obtain ⟨i1, hi1, rfl⟩ := Option.map_eq_some_iff.1 hby
  have hroom : ¬ (n + m ≤ c) := by omega
  have h63 : ¬ (9223372036854775807 < ((n : Int) + (m : Int))) := by omega
  have h48 : ¬ (281474976710656 < Builtin.nextslicecap (n + m) c * i1.bytes) := by
    have := growslice_fits (need := n + m) (old := c) (bytes := i1.bytes) (by omega) (by omega)
    omega
  refine ⟨Question.cut (.appendCap (n + m) c el) (w.tape w.drawn (.appendCap (n + m) c el)), Builtin.zeroCells zv.cells (Question.cut (.appendCap (n + m) c el) (w.tape w.drawn (.appendCap (n + m) c el)) - (n + m)), ?_, by simp [Builtin.zeroCells], ?_⟩
  · simp only [Question.cut]; omega
  rcases ha with ⟨hint, hlen, hfirst⟩ | ⟨hint, k, i, rfl, h0, hi, rfl, zv', hzv', rfl, rfl⟩
  · obtain ⟨d, hd, hdb⟩ := Option.map_eq_some_iff.1 hint
    simp only [Builtin.append_, List.getElem?_toArray, List.getElem?_cons_zero, List.getElem?_cons_succ, Sem.run_bind, run_und ht, Result.andThen_ok, run_sz hsz, run_und hd]
    cases d <;> first | (simp [isIntD] at hdb; done) | (simp [hlen, hroom, h63, h48, typeInfo, hi1, Question.forced, hfirst w.drew (fun _ => rfl), ho w.drew (fun _ => rfl), hzv, newRow]; congr 2; apply Array.ext'; simp [List.append_assoc])
  · obtain ⟨d, hd, hdb⟩ := Option.map_eq_some_iff.1 hint
    have hw := wrap_small h0 hi
    have hneg : ¬ i < 0 := by omega
    have hb : ¬ (281474976710656 < i * (i1.bytes : Int)) := by
      have h1 : ((i.toNat * i1.bytes : Nat) : Int) = i * i1.bytes := by rw [Int.natCast_mul, Int.toNat_of_nonneg h0]
      have h2 : i.toNat * i1.bytes ≤ (n + i.toNat) * i1.bytes := Nat.mul_le_mul_right _ (by omega)
      omega
    simp only [Builtin.append_, List.getElem?_toArray, List.getElem?_cons_zero, List.getElem?_cons_succ, Sem.run_bind, run_und ht, Result.andThen_ok, run_sz hsz, run_und hd]
    cases d <;> first | (simp [isIntD] at hdb; done) | skip
    by_cases hz : i.toNat * zv'.cells.size = 0
    · have : (Builtin.zeroCells zv'.cells i.toNat) = #[] := by
        apply Array.eq_empty_of_size_eq_zero
        simp [Builtin.zeroCells, hz]
      have h63' : ¬ (9223372036854775807 < (n : Int) + max i 0) := by omega
      simp [asInt, asIntOf, hw, hneg, typeInfo, hi1, hb, hroom, h63', h48, hz, this, Question.forced, ho w.drew (fun _ => rfl), hzv, newRow]
    · have h63' : ¬ (9223372036854775807 < (n : Int) + max i 0) := by omega
      have hee : zv' = zv := by have h1 := hzv' w; rw [hzv w] at h1; simpa using h1.symm
      subst hee
      simp [asInt, asIntOf, hw, hneg, typeInfo, hi1, hb, hroom, h63', h48, hz, Question.forced, ho w.drew (fun _ => rfl), hzv, newRow]
end
end Go.Proofs.YtnejoidfbgklbaaGreatDoor.Eng
