/- The engine, part 7: conversions, slices of slices, make, append, copy, clear. -/
import Derived.Test.YtnejoidfbgklbaaGreatDoorE6
namespace Go.Proofs.YtnejoidfbgklbaaGreatDoor.Eng
open Go Go.RowKit
set_option linter.unusedSimpArgs false
set_option linter.unusedVariables false

section
variable {P : Program} {base : Nat} {H : Hp} {ρ : Nat → Loc} {F : Nat → Nat → Prop} {w : World}

theorem Inv.drew (I : Inv base H ρ F w) : Inv base H ρ F w.drew ∧ Step H ρ F w H ρ F w.drew := by
  obtain ⟨h1, h2⟩ := I.allocF (w' := w.drew) (Nat.le_refl _) (fun _ _ _ => rfl) (fun _ _ _ => rfl) (I.tab.below (Below.refl _ _).drew) (F' := F) (fun _ _ h => h) (fun _ _ h => .inl h)
  exact ⟨h1, h2⟩

/-- Lists of bytes. -/
theorem bytesIn_spec {cs : List AV} {l : List UInt8} (h : bytesIn cs = some l) : ∃ ns : List Int, cs = ns.map (fun n => AV.v (.int .u8 n)) ∧ l = ns.map (fun n => UInt8.ofNat n.toNat) := by
  induction cs generalizing l with
  | nil => simp [bytesIn] at h; subst h; exact ⟨[], rfl, rfl⟩
  | cons c cs ih =>
    unfold bytesIn at h
    split at h
    · rename_i heq; simp at heq
    · rename_i n r heq
      simp only [List.cons.injEq] at heq
      obtain ⟨rfl, rfl⟩ := heq
      obtain ⟨l', hl, rfl⟩ := Option.map_eq_some_iff.1 h
      obtain ⟨ns, rfl, rfl⟩ := ih hl
      exact ⟨n :: ns, rfl, rfl⟩
    · simp at h

theorem push_all (ns : List Int) : ∀ (s : ByteArray), (ns.foldl (fun (r : ByteArray) n => r.push (UInt8.ofNat n.toNat)) s) = ⟨s.data ++ (ns.map (fun n => UInt8.ofNat n.toNat)).toArray⟩ := by
  induction ns with
  | nil => intro s; simp
  | cons n ns ih =>
    intro s
    rw [List.foldl_cons, ih]
    congr 1
    apply Array.ext'
    simp [ByteArray.push]

theorem bytesToString_ok {ns : List Int} {k q n c : Nat} (hl : ns.length = n) (hm : ∀ (i : Nat) x, ns[i]? = some x → w.cell? (at_ k (q + i)) = some (.int .u8 x)) :
    (Conv.bytesToString (.slice (some (at_ k q)) n c)).run P w = .ok (.string ⟨(ns.map (fun n => UInt8.ofNat n.toNat)).toArray⟩) w := by
  have h := run_loadCells_list (P := P) w (at_ k q) (ns.map (Value.int .u8)) (fun j v hj => by
    rw [List.getElem?_map] at hj
    obtain ⟨x, hx, rfl⟩ := Option.map_eq_some_iff.1 hj
    rw [add_at]; exact hm j x hx)
  rw [List.length_map, hl] at h
  rw [run_bytesToString (P := P) w _ n c ns h, push_all]
  congr 2
  simp [ByteArray.empty, ByteArray.emptyWithCapacity]
  rfl

theorem flat_get {sz : Nat} : ∀ (xs : List (List AV)), (∀ x ∈ xs, x.length = sz) → ∀ (i : Nat) c, xs.flatten[i]? = some c → ∃ p q, i = p * sz + q ∧ q < sz ∧ p < xs.length ∧ get2 xs p q = some c := by
  intro xs
  induction xs with
  | nil => intro _ i c h; simp at h
  | cons x xs ih =>
    intro hs i c h
    have hx := hs x (by simp)
    rw [List.flatten_cons, List.getElem?_append] at h
    split at h
    · rename_i hlt
      exact ⟨0, i, by omega, by omega, by simp, by simp [get2, h]⟩
    · rename_i hge
      obtain ⟨p, q, h1, h2, h3, h4⟩ := ih (fun y hy => hs y (by simp [hy])) (i - x.length) c h
      refine ⟨p + 1, q, ?_, h2, by simp; omega, by simpa [get2] using h4⟩
      rw [Nat.add_mul]; omega
theorem flat_length {sz : Nat} : ∀ (xs : List (List AV)), (∀ x ∈ xs, x.length = sz) → xs.flatten.length = xs.length * sz := by
  intro xs
  induction xs with
  | nil => intro _; simp
  | cons x xs ih =>
    intro hs
    rw [List.flatten_cons, List.length_append, ih (fun y hy => hs y (by simp [hy])), hs x (by simp), List.length_cons, Nat.add_mul]; omega

/-- What stands in memory under a list that is read: cell by cell. -/
theorem lst_cells {fu : Bool} {xs : List (List AV)} {y : Value} (hx : VR H ρ F w (.lst fu xs) y) (hne : xs ≠ []) : ∃ blk off c sz, y = .slice (some (at_ blk off)) xs.length c ∧ xs.length ≤ c ∧ (fu = true → c = xs.length) ∧ (∀ x ∈ xs, x.length = sz) ∧
    ∀ (i : Nat) x, xs.flatten[i]? = some x → okc x = true ∧ ∃ z, w.cell? (at_ blk (off + i)) = some z ∧ F blk (off + i) ∧ VR H ρ F w x z := by
  cases hx with
  | lst0 => exact absurd rfl hne
  | lst rd _ hs hf hc ho hm hv =>
    rename_i blk off c sz _
    refine ⟨blk, off, c, sz, rfl, hc, hf, hs, fun i x hi => ?_⟩
    obtain ⟨p, q, rfl, _, _, h4⟩ := flat_get xs hs i x hi
    exact ⟨ho p q x h4, rd p q, (hm p q x h4).1, (hm p q x h4).2, hv p q x h4⟩

theorem conv_ok (I : Inv base H ρ F w) {s d : TypeId} {x v : AV} {a : Value} (hx : VR H ρ F w x a) (h : aconv P H s d x = some v) :
    ∃ u w' F', (convert s d a).run P w = .ok u w' ∧ After base H ρ F w H ρ F' w' ∧ VR H ρ F' w' v u := by
  unfold aconv at h
  split at h
  · rename_i k' k k'' n hs hd
    cases hx
    simp only [Option.some.injEq] at h; subst h
    exact ⟨_, w, F, by simp [convert, run_und hs, run_und hd, Conv.intToInt], .refl I, .v⟩
  · rename_i s' hs hd
    cases hx
    simp only [Option.some.injEq] at h; subst h
    exact ⟨_, w, F, by simp [convert, run_und hs, run_und hd], .refl I, .v⟩
  · rename_i el s' hs hd
    cases hx
    split at h
    case h_2 => simp at h
    rename_i he
    simp only [Option.some.injEq] at h; subst h
    let cap := Question.cut (.appendCap s'.size 0 el) (w.tape w.drawn (.appendCap s'.size 0 el))
    have hcap : s'.size ≤ cap := by simp only [cap, Question.cut]; omega
    let cells : Array Value := s'.data.map (fun b => Value.int .u8 b.toNat) ++ Array.replicate (cap - s'.size) (.int .u8 0)
    have hnew : (w.drew.alloc (.cells cells el)).heap[w.heap.size]? = some (.cells cells el (0, 0)) := heap_new w.drew _
    let w' := (w.drew.alloc (.cells cells el)).freeze ⟨w.heap.size, cells.size, none⟩ 1
    have hsz : w'.heap.size = w.heap.size + 1 := by simp [w', World.freeze]
    have hold : ∀ k, k < w.heap.size → w'.heap[k]? = w.heap[k]? := by
      intro k hk
      simp only [w', World.freeze]
      rw [if_neg (by decide)]
      simp only [Array.getElem?_modify]
      rw [if_neg (by omega)]
      exact Below.heap_alloc w.drew _ k hk
    have hnew' : ∀ i, w'.cell? (at_ w.heap.size i) = cells[i]? := by
      intro i
      have : w'.heap[w.heap.size]? = some (.cells cells el (cells.size, cells.size + 1)) := by
        simp only [w', World.freeze]
        rw [if_neg (by decide)]
        simp only [Array.getElem?_modify]
        rw [hnew]; simp
      simp only [World.cell?, this]; rfl
    obtain ⟨i1, i2⟩ := I.allocF (w' := w') (by omega) (fun k o hk => by simp only [World.cell?, hold k hk]) (fun k o hk => by simp only [World.frozen?, hold k hk]) (fun t ht => by obtain ⟨g1, o, g2, g3⟩ := I.tab t ht; exact ⟨g1, o, (hold _ (Nat.lt_of_lt_of_le g1 I.base)).trans g2, g3⟩)
      (F' := fun k o => F k o ∨ (k = w.heap.size ∧ o < s'.size)) (fun k o h => .inl h) (fun k o h => h.imp id (fun h => by omega))
    refine ⟨.slice (some (at_ w.heap.size 0)) s'.size cap, w', _, ?_, ⟨i1, i2, ⟨rfl, rfl, rfl, by omega, fun k hk => hold k (by have := I.base; omega)⟩, fun k o h => h.imp id (fun h => by have := I.base; omega)⟩, ?_⟩
    · have hsh : (w.drew.alloc (.cells cells el)).shape? w.heap.size = some (el, cells.size) := by simp only [World.shape?, hnew]
      simp only [convert, Sem.run_bind, run_und hs, run_und hd, Result.andThen_ok, run_und he, Conv.stringToBytes, run_choose, Question.forced, Bool.false_eq_true, if_false]
      simp only [newRow, Sem.run_bind, run_newObj, Result.andThen_ok, Sem.run_pure, markStringish, run_shape]
      show ((match (w.drew.alloc (.cells cells el)).shape? w.heap.size with | some (_, n) => freeze ⟨w.heap.size, n, none⟩ 1 | _ => Pure.pure ()).run P (w.drew.alloc (.cells cells el))).andThen _ = _
      rw [hsh]; rfl
    · have hb : byteCells s' = chunk 1 s'.size (s'.data.toList.map fun b => AV.v (.int .u8 b.toNat)) := by
        have : ∀ l : List UInt8, l.map (fun b => [AV.v (.int .u8 b.toNat)]) = chunk 1 l.length (l.map fun b => AV.v (.int .u8 b.toNat)) := by
          intro l
          induction l with
          | nil => rfl
          | cons b l ih => simp [chunk, ih]
        exact this s'.data.toList
      rw [hb]
      refine VR.lstOf (by simp) hcap (by simp) (fun x hx => by obtain ⟨b, -, rfl⟩ := List.mem_map.1 hx; rfl) fun i x hi => ?_
      rw [List.getElem?_map] at hi
      obtain ⟨b, hb, rfl⟩ := Option.map_eq_some_iff.1 hi
      have hlt := lt_of_get hb
      have hlt2 : i < s'.size := by simpa using hlt
      refine ⟨.int .u8 b.toNat, ?_, .inr ⟨rfl, by omega⟩, .v⟩
      rw [Nat.zero_add, hnew']
      simp only [cells]
      rw [Array.getElem?_append, if_pos (by simpa using hlt2), Array.getElem?_map]
      rw [toList_get] at hb
      rw [hb]; rfl
  · rename_i el x hs hd
    split at h
    case h_2 => simp at h
    rename_i he
    have hcv : ∀ a l c, (convert s d (.slice a l c)).run P w = (Conv.bytesToString (.slice a l c)).run P w := by
      intro a l c
      simp [convert, run_und hs, run_und hd, run_und he]
    split at h
    · rename_i n c
      cases hx
      simp only [Option.some.injEq] at h; subst h
      refine ⟨_, w, F, by rw [hcv]; rfl, .refl I, ?_⟩
      exact .v
    · rename_i fu xs
      split at h
      case isFalse => simp at h
      rename_i hone
      obtain ⟨l, hl, rfl⟩ := Option.map_eq_some_iff.1 h
      obtain ⟨ns, hns, rfl⟩ := bytesIn_spec hl
      by_cases hne : xs = []
      · subst hne
        have : ns = [] := by simpa using hns.symm
        subst this
        cases hx with
        | lst0 =>
          rename_i ad c _
          cases ad with
          | none => exact ⟨_, w, F, by rw [hcv]; rfl, .refl I, .v⟩
          | some ad =>
            refine ⟨_, w, F, ?_, .refl I, .v⟩
            rw [hcv]
            have h := run_loadCells_list (P := P) w ad [] (fun j v hj => by simp at hj)
            rw [run_bytesToString (P := P) w ad 0 c [] h]; rfl
        | lst _ hne => exact absurd rfl hne
      · obtain ⟨blk, off, c, sz, rfl, -, -, hs', hcells⟩ := lst_cells hx hne
        have hsz : ∀ x ∈ xs, x.length = 1 := fun x hx => by simpa using List.all_eq_true.1 hone x hx
        have hfl := flat_length xs hsz
        refine ⟨_, w, F, ?_, .refl I, .v⟩
        rw [hcv]
        refine bytesToString_ok ?_ fun i x hi => ?_
        · rw [hns] at hfl; simpa using hfl
        · obtain ⟨-, z, h1, -, h3⟩ := hcells i (.v (.int .u8 x)) (by rw [hns, List.getElem?_map, hi]; rfl)
          rw [h3.eqv] at h1; exact h1
    · rename_i b o n
      obtain ⟨cs, hcs, h⟩ := Option.bind_eq_some_iff.1 h
      split at h
      case isFalse => simp at h
      rename_i hle
      obtain ⟨l, hl, rfl⟩ := Option.map_eq_some_iff.1 h
      obtain ⟨ns, hns, rfl⟩ := bytesIn_spec hl
      have hlen : ns.length = n := by have := congrArg List.length hns; simp at this; omega
      cases hx with
      | sl hb hsl hnn =>
        rename_i ad c
        rcases hsl cs hcs with ⟨rfl, rfl, h3⟩ | ⟨rfl, h4, h5, h6⟩
        · have : ns = [] := List.eq_nil_of_length_eq_zero hlen
          subst this
          cases ad with
          | none => exact ⟨_, w, F, by rw [hcv]; rfl, .refl I, .v⟩
          | some ad =>
            refine ⟨_, w, F, ?_, .refl I, .v⟩
            rw [hcv]
            have h := run_loadCells_list (P := P) w ad [] (fun j v hj => by simp at hj)
            rw [run_bytesToString (P := P) w ad 0 0 [] h]; rfl
        · refine ⟨_, w, F, ?_, .refl I, .v⟩
          rw [hcv]
          refine bytesToString_ok hlen fun i x hi => ?_
          have hi2 := lt_of_get hi
          have hx : cs[o + i]? = some (.v (.int .u8 x)) := by
            have : ((cs.drop o).take n)[i]? = some (.v (.int .u8 x)) := by rw [hns, List.getElem?_map, hi]; rfl
            rw [List.getElem?_take_of_lt (by omega), List.getElem?_drop] at this; exact this
          obtain ⟨y, h7, h8⟩ := I.val b cs (o + i) _ hcs hx
          rw [h8.eqv] at h7
          rw [Nat.add_assoc]; exact h7
    · simp at h
  · simp at h

/-! Bounds of a slice expression. -/
theorem bound_some {e : Env} {a : Act} (h : EnvR H ρ F w e a) {x : Operand} {d n : Nat} (hb : bound e d (some x) = some n) : ∃ k i, a.eval x = .int k i ∧ 0 ≤ i ∧ n = i.toNat := nat_spec (h.opd x) hb
theorem run_bound (k : IntKind) {i : Int} {y : Nat} (code : BoundsCode) (h0 : 0 ≤ i) (h1 : i.toNat ≤ y) (w : World) : (Instr.sliceBound (.int k i) y code).run P w = .ok i.toNat w := by
  simp [Instr.sliceBound, asIntOf, h0, show i ≤ (y : Int) by omega]
theorem low_cases {e : Env} {a : Act} (h : EnvR H ρ F w e a) {lo : Option Operand} {l d y : Nat} (hl : bound e d lo = some l) (h1 : l ≤ y) :
    (lo = none ∧ l = d) ∨ ∃ x v, lo = some x ∧ a.eval x = v ∧ ∀ code, (Instr.sliceBound v y code).run P w = .ok l w := by
  cases lo with
  | none => simp only [bound, Option.some.injEq] at hl; exact .inl ⟨rfl, hl.symm⟩
  | some x => obtain ⟨k, i, h3, h4, rfl⟩ := bound_some h hl; exact .inr ⟨x, _, rfl, h3, fun code => run_bound k code h4 h1 w⟩
theorem bounds_ok {e : Env} {a : Act} (h : EnvR H ρ F w e a) (isS : Bool) {len cap : Nat} {lo hi mx : Option Operand} {l hh m : Nat} (hl : bound e 0 lo = some l) (hh' : bound e len hi = some hh)
    (hm : mx = none ∧ m = cap ∨ (∃ x, mx = some x ∧ bound e 0 mx = some m ∧ m ≤ cap ∧ hi.isSome)) (h1 : l ≤ hh) (h2 : hh ≤ m) :
    (Instr.sliceBounds isS len cap (lo.map a.eval) (hi.map a.eval) (mx.map a.eval)).run P w = .ok (l, hh, m) w := by
  rcases hm with ⟨rfl, rfl⟩ | ⟨x, rfl, hmm, hmc, hhs⟩
  · rcases low_cases (P := P) h hl h1 with ⟨rfl, rfl⟩ | ⟨x, v, rfl, rfl, hx⟩ <;> rcases low_cases (P := P) h hh' h2 with ⟨rfl, rfl⟩ | ⟨z, u, rfl, rfl, hz⟩ <;>
      simp only [Instr.sliceBounds, Option.map_none, Option.map_some, Sem.run_bind, Sem.run_pure, Result.andThen_ok, *]
  · rcases low_cases (P := P) h hmm hmc with ⟨h0, -⟩ | ⟨x', v, hx', rfl, hxx⟩
    · simp at h0
    simp only [Option.some.injEq] at hx'
    subst hx'
    rcases low_cases (P := P) h hh' h2 with ⟨rfl, rfl⟩ | ⟨z, u, rfl, rfl, hz⟩
    · simp at hhs
    rcases low_cases (P := P) h hl h1 with ⟨rfl, rfl⟩ | ⟨y, v, rfl, rfl, hy⟩ <;>
      simp only [Instr.sliceBounds, Option.map_none, Option.map_some, Sem.run_bind, Sem.run_pure, Result.andThen_ok, *]

theorem get2_drop {xs : List (List AV)} {l m i j : Nat} {x : AV} (h : get2 ((xs.drop l).take m) i j = some x) : i < m ∧ get2 xs (l + i) j = some x := by
  unfold get2 at h ⊢
  by_cases hi : i < m
  · rw [List.getElem?_take_of_lt hi, List.getElem?_drop] at h; exact ⟨hi, h⟩
  · rw [List.getElem?_take, if_neg hi] at h; simp at h

theorem slice_ok (I : Inv base H ρ F w) {e : Env} {a : Act} (he : EnvR H ρ F w e a) {t : TypeId} {x v : AV} {y : Value} (hx : VR H ρ F w x y) {lo hi mx : Option Operand} (h : aslice P H e t x lo hi mx = some v) :
    ∃ u, (Instr.sliceAt t y (lo.map a.eval) (hi.map a.eval) (mx.map a.eval)).run P w = .ok u w ∧ VR H ρ F w v u := by
  unfold aslice at h
  split at h
  · rename_i s hu
    cases hx
    cases mx with
    | some _ => simp at h
    | none =>
    simp only [Option.isSome_none, Bool.false_eq_true, if_false, Option.bind_eq_some_iff, Option.ite_none_right_eq_some, Option.some.injEq] at h
    obtain ⟨l, hl, hh, hh', hc, rfl⟩ := h
    refine ⟨_, ?_, .v⟩
    have := bounds_ok (P := P) he false (cap := s.size) (mx := none) hl hh' (.inl ⟨rfl, rfl⟩) hc.1 hc.2
    simp only [Instr.sliceAt, Sem.run_bind, run_und hu, Result.andThen_ok, Instr.slice, Option.map_none] at this ⊢
    simp [this]
  · rename_i el hu
    cases hx
    simp only [Option.bind_eq_some_iff, Option.ite_none_right_eq_some, Option.some.injEq] at h
    obtain ⟨sz, hsz, l, hl, hh, hh', m, hm, ⟨rfl, rfl, rfl, hmx⟩, rfl⟩ := h
    refine ⟨.slice none 0 0, ?_, .v⟩
    have hb : (Instr.sliceBounds true 0 0 (lo.map a.eval) (hi.map a.eval) (mx.map a.eval)).run P w = .ok (0, 0, 0) w := by
      refine bounds_ok he true hl hh' ?_ (Nat.le_refl 0) (Nat.le_refl 0)
      cases mx with
      | none => exact .inl ⟨rfl, rfl⟩
      | some x => exact .inr ⟨x, rfl, hm, Nat.le_refl 0, by simpa using hmx⟩
    simp only [Instr.sliceAt, Sem.run_bind, run_und hu, Result.andThen_ok, Instr.slice, hb, run_sz hsz]
    rfl
  · rename_i el fu xs hu
    simp only [Option.bind_eq_some_iff, Option.ite_none_right_eq_some] at h
    obtain ⟨sz, hsz, l, hl, hh, hh', ⟨hall, hlh, hhx⟩, h⟩ := h
    have hel : ∀ x ∈ xs, x.length = sz := fun x hx => by simpa using List.all_eq_true.1 hall x hx
    have fin : ∀ (m c : Nat) (ad : Option Addr) (fu' : Bool), y = .slice ad xs.length c → hh ≤ m → (fu' = true → m = hh) →
        (Instr.sliceBounds true xs.length c (lo.map a.eval) (hi.map a.eval) (mx.map a.eval)).run P w = .ok (l, hh, m) w → m ≤ c →
        ∃ u, (Instr.sliceAt t y (lo.map a.eval) (hi.map a.eval) (mx.map a.eval)).run P w = .ok u w ∧ VR H ρ F w (.lst fu' ((xs.drop l).take (hh - l))) u := by
      rintro m c ad fu' rfl hm1 hm2 hb hmc
      refine ⟨.slice (if m = l then ad else ad.map (·.add (l * sz))) (hh - l) (m - l), ?_, ?_⟩
      · simp only [Instr.sliceAt, Sem.run_bind, run_und hu, Result.andThen_ok, Instr.slice, hb, run_sz hsz]
        rfl
      · by_cases he' : hh = l
        · subst he'
          rw [Nat.sub_self, List.take_zero]
          exact .lst0 fun hf => by have := hm2 hf; omega
        · have hne : xs ≠ [] := by intro h0; subst h0; simp at hhx; omega
          cases hx with
          | lst0 => exact absurd rfl hne
          | lst rd _ hs hf hc ho hmm hv =>
            rename_i blk off sz' _
            have hsz' : sz' = sz := by
              obtain ⟨x, hx⟩ := List.exists_mem_of_ne_nil xs hne
              rw [← hs x hx, hel x hx]
            subst hsz'
            rw [if_neg (by omega), Option.map_some, add_at]
            have hlen : ((xs.drop l).take (hh - l)).length = hh - l := by simp; omega
            have hres : VR H ρ F w (.lst fu' ((xs.drop l).take (hh - l))) (.slice (some (at_ blk (off + l * sz'))) ((xs.drop l).take (hh - l)).length (m - l)) := by
              refine .lst (sz := sz') (fun i j => rd (l + i) j) (by intro h0; rw [h0] at hlen; simp at hlen; omega) (fun x hx => hel x (List.mem_of_mem_drop (List.mem_of_mem_take hx))) (fun hf' => by rw [hlen]; have := hm2 hf'; omega) (by rw [hlen]; omega) (fun i j x hx => ho (l + i) j x (get2_drop hx).2) (fun i j x hx => ?_) (fun i j x hx => ?_)
              · obtain ⟨h1, h2⟩ := get2_drop hx
                have := hmm (l + i) j x h2
                rw [Nat.add_mul] at this
                rw [show off + l * sz' + (i * sz' + j) = off + (l * sz' + i * sz' + j) by omega]; exact this
              · exact hv (l + i) j x (get2_drop hx).2
            simpa only [hlen] using hres
    cases hx with
    | lst0 h0 =>
      rename_i ad c
      cases mx with
      | none =>
        simp only [Option.some.injEq] at h; subst h
        exact fin c c ad _ rfl (by simp at hhx; omega) (fun hf => by simp at hf hhx; rw [h0 hf.1]; omega) (bounds_ok he true hl hh' (.inl ⟨rfl, rfl⟩) hlh (by simp at hhx; omega)) (Nat.le_refl _)
      | some z =>
        simp only [Option.bind_eq_some_iff, Option.ite_none_right_eq_some, Option.some.injEq] at h
        obtain ⟨m, hm, ⟨h1, h2, h3⟩, rfl⟩ := h
        exact fin m c ad _ rfl h1 (fun hf => by simpa using hf) (bounds_ok he true hl hh' (.inr ⟨z, rfl, hm, by simp at h2; omega, h3⟩) hlh h1) (by simp at h2; omega)
    | lst rd hne hs hf hc ho hmm hv =>
      rename_i blk off c sz'
      cases mx with
      | none =>
        simp only [Option.some.injEq] at h; subst h
        exact fin c c _ _ rfl (by omega) (fun hf' => by simp at hf'; have := hf hf'.1; omega) (bounds_ok he true hl hh' (.inl ⟨rfl, rfl⟩) hlh (by omega)) (Nat.le_refl _)
      | some z =>
        simp only [Option.bind_eq_some_iff, Option.ite_none_right_eq_some, Option.some.injEq] at h
        obtain ⟨m, hm, ⟨h1, h2, h3⟩, rfl⟩ := h
        exact fin m c _ _ rfl h1 (fun hf => by simpa using hf) (bounds_ok he true hl hh' (.inr ⟨z, rfl, hm, by omega, h3⟩) hlh h1) (by omega)
  · rename_i el b sz o n hu
    simp only [Option.bind_eq_some_iff, Option.ite_none_right_eq_some, Option.some.injEq] at h
    obtain ⟨⟨hsz, hmx, hpos⟩, cs, hcs, l, hl, hh, hh', ⟨hlh, hle⟩, rfl⟩ := h
    cases mx with
    | some _ => simp at hmx
    | none =>
    cases hx with
    | sl hb hs hn =>
      rename_i ad c
      have hhc : hh ≤ c := by
        rcases hs cs hcs with ⟨rfl, rfl, h3⟩ | ⟨rfl, h4, h5, h6⟩
        · have : hh * sz = 0 := by omega
          rcases Nat.mul_eq_zero.1 this with h | h <;> omega
        · exact Nat.le_of_mul_le_mul_right (by omega : hh * sz ≤ c * sz) hpos
      have hbd := bounds_ok (P := P) he true (mx := none) (cap := c) hl hh' (.inl ⟨rfl, rfl⟩) hlh hhc
      simp only [Option.map_none] at hbd
      refine ⟨.slice (if c = l then ad else ad.map (·.add (l * sz))) (hh - l) (c - l), ?_, .sl hb (fun cs' hcs' => ?_) (fun hne => ?_)⟩
      · simp only [Instr.sliceAt, Sem.run_bind, run_und hu, Result.andThen_ok, Instr.slice, Option.map_none, hbd, run_sz hsz]
        rfl
      · rw [hcs] at hcs'
        simp only [Option.some.injEq] at hcs'; subst hcs'
        rcases hs cs hcs with ⟨rfl, rfl, h3⟩ | ⟨rfl, h4, h5, h6⟩
        · have h0 : hh = 0 := by omega
          have h1 : l = 0 := by omega
          subst h0 h1
          exact .inl ⟨rfl, rfl, by omega⟩
        · by_cases hcl : c = l
          · subst hcl
            exact .inl ⟨by omega, by omega, h5⟩
          · refine .inr ⟨by rw [if_neg hcl, Option.map_some, add_at, Nat.add_assoc], ?_, ?_, ?_⟩
            · rw [Nat.add_assoc, ← Nat.add_mul]; rw [show l + (hh - l) = hh by omega]; exact hle
            · rw [Nat.add_assoc, ← Nat.add_mul]; rw [show l + (c - l) = c by omega]; exact h5
            · rw [Nat.add_assoc, ← Nat.add_mul]; rw [show l + (c - l) = c by omega]; exact h6
      · rcases hs cs hcs with ⟨-, rfl, h3⟩ | ⟨rfl, h4, h5, h6⟩
        · omega
        · split at hne <;> simp at hne
  · rename_i m el b o hu
    simp only [Option.bind_eq_some_iff, Option.ite_none_right_eq_some, Option.some.injEq] at h
    obtain ⟨hmx, sz, hsz, cs, hcs, l, hl, hh, hh', ⟨hlh, hhm, hlen, hpos⟩, rfl⟩ := h
    cases mx with
    | some _ => simp at hmx
    | none =>
    cases hx with
    | ptr hb hs =>
      rename_i ad
      have hbd := bounds_ok (P := P) he false (mx := none) (cap := m) hl hh' (.inl ⟨rfl, rfl⟩) hlh hhm
      simp only [Option.map_none] at hbd
      refine ⟨.slice (some (if m = l then ad else ad.add (l * sz))) (hh - l) (m - l), ?_, .sl hb fun cs' hcs' => ?_⟩
      · simp only [Instr.sliceAt, Sem.run_bind, run_und hu, Result.andThen_ok, Instr.sureAddr, Sem.run_pure, Option.map_none, hbd, run_sz hsz]
      · rw [hcs] at hcs'
        simp only [Option.some.injEq] at hcs'; subst hcs'
        rw [hs cs hcs]
        have hlim := (I.blk b cs hcs).2.2
        by_cases hcl : m = l
        · subst hcl
          exact .inl ⟨by omega, by omega, by omega⟩
        · refine .inr ⟨by rw [if_neg hcl, add_at, Nat.add_assoc], ?_, ?_, ?_⟩
          · rw [Nat.add_assoc, ← Nat.add_mul]; rw [show l + (hh - l) = hh by omega]
            have := Nat.mul_le_mul_right sz hhm; omega
          · rw [Nat.add_assoc, ← Nat.add_mul]; rw [show l + (m - l) = m by omega]; omega
          · rw [Nat.add_assoc, ← Nat.add_mul]; rw [show l + (m - l) = m by omega]; omega
  · simp at h
end
end Go.Proofs.YtnejoidfbgklbaaGreatDoor.Eng
