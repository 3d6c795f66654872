/- The engine, part 18: a law's arguments, as they are read, are abstract values of their types' shapes. -/
import Derived.Test.YtnejoidfbgklbaaGreatDoorE17
import Derived.OpenShut
import Derived.SizedLaws
import Derived.Carry
namespace Go.Proofs.YtnejoidfbgklbaaGreatDoor.Eng
open Go Go.RowKit Go.WideShapes
set_option linter.unusedSimpArgs false
set_option linter.unusedVariables false

section
variable (P : Program)

def contig : Nat → List Field → Nat → Bool
  | o, [], n => o == n
  | o, f :: fs, n => f.offset == o && contig (o + P.cellsOf f.type) fs n

/-- Types of numbers, texts, slices and structs alone, without gaps. -/
def plainT : Nat → TypeId → Bool
  | 0, _ => false
  | n + 1, t => match P.underlying t with
    | some .bool | some (.int _) | some .string => true
    | some (.slice e) => decide (0 < P.cellsOf e) && plainT n e
    | some (.struct fs) => contig P 0 fs.toList (P.cellsOf t) && fs.toList.all fun f => plainT n f.type
    | _ => false

/-- What holds of each part, one behind another. -/
def Parts (S : TypeId → List AV → Prop) : List Field → List AV → Prop
  | [], xs => xs = []
  | f :: fs, xs => ∃ a b, xs = a ++ b ∧ S f.type a ∧ Parts S fs b

/-- The cells of a value of a type. -/
def Sh (B : Nat → Nat → Prop) : Nat → TypeId → List AV → Prop
  | 0, _, _ => False
  | n + 1, t, xs => match P.underlying t with
    | some .bool => ∃ b, xs = [.v (.bool b)]
    | some (.int k) => ∃ z, xs = [.v (.int k z)] ∧ (Lit.int k z).wf = true
    | some .string => ∃ s : ByteArray, xs = [.v (.string s)] ∧ B s.size 1
    | some (.slice e) => xs = [.v (.slice none 0 0)] ∨ ∃ ys, xs = [.lst false ys] ∧ B ys.length (P.bytesOf e) ∧ ∀ c ∈ ys, Sh B n e c
    | some (.struct fs) => Parts (Sh B n) fs.toList xs
    | _ => False

def ArgSh (B : Nat → Nat → Prop) (n : Nat) (t : TypeId) (a : AV) : Prop := match aggT P t with
  | some true => ∃ xs, a = .agg xs ∧ Sh P B n t xs
  | _ => Sh P B n t [a]
def ArgsSh (B : Nat → Nat → Prop) (n : Nat) : List TypeId → List AV → Prop
  | [], as => as = []
  | t :: ts, as => ∃ a r, as = a :: r ∧ ArgSh P B n t a ∧ ArgsSh B n ts r
end

section
variable {P : Program} {W : World} {H : Type} {enc : TypeId × Value → H}

def VRs (W : World) (xs : List AV) (cs : List Value) : Prop := xs.length = cs.length ∧ ∀ (i : Nat) x y, xs[i]? = some x → cs[i]? = some y → okc x = true ∧ ∀ ρ, VR Hp.nil ρ (fun k _ => k < W.heap.size) W x y

theorem VRs.nil : VRs W [] [] := ⟨rfl, fun i x y h => by simp at h⟩
theorem VRs.one {x : AV} {y : Value} (ho : okc x = true) (h : ∀ ρ, VR Hp.nil ρ (fun k _ => k < W.heap.size) W x y) : VRs W [x] [y] := by
  refine ⟨rfl, fun i a b ha hb => ?_⟩
  cases i with
  | zero => simp at ha hb; subst ha hb; exact ⟨ho, h⟩
  | succ i => simp at ha
theorem VRs.app {xs xs' : List AV} {cs cs' : List Value} (h : VRs W xs cs) (h' : VRs W xs' cs') : VRs W (xs ++ xs') (cs ++ cs') := by
  refine ⟨by simp [h.1, h'.1], fun i x y hx hy => ?_⟩
  rw [List.getElem?_append] at hx hy
  rw [h.1] at hx
  split at hx
  · rename_i hi; rw [if_pos hi] at hy; exact h.2 i x y hx hy
  · rename_i hi; rw [if_neg hi] at hy; exact h'.2 _ x y hx hy

theorem weightsAll_mem {e : TypeId} : ∀ {ds : List (DataW H)} {d : DataW H}, d ∈ ds → ∀ n ∈ d.weights P e, n ∈ DataW.weightsAll P e ds := by
  intro ds
  induction ds with
  | nil => intro d h; simp at h
  | cons x ds ih =>
    intro d h n hn
    simp only [DataW.weightsAll, List.mem_append]
    rcases List.mem_cons.1 h with rfl | h
    · exact .inl hn
    · exact .inr (ih h n hn)
theorem choose_list {α β : Type} {R : α → β → Prop} : ∀ (l : List α), (∀ x ∈ l, ∃ y, R x y) → ∃ r : List β, r.length = l.length ∧ ∀ (i : Nat) x y, l[i]? = some x → r[i]? = some y → R x y := by
  intro l
  induction l with
  | nil => intro _; exact ⟨[], rfl, fun i x y h => by simp at h⟩
  | cons a l ih =>
    intro h
    obtain ⟨b, hb⟩ := h a (by simp)
    obtain ⟨r, h1, h2⟩ := ih fun x hx => h x (by simp [hx])
    refine ⟨b :: r, by simp [h1], fun i x y hx hy => ?_⟩
    cases i with
    | zero => simp at hx hy; subst hx hy; exact hb
    | succ i => exact h2 i x y (by simpa using hx) (by simpa using hy)

def reach (n b : Nat) : Prop := n * b ≤ 140737488351232

theorem cell_lt {k o : Nat} {y : Value} (h : W.cell? (at_ k o) = some y) : k < W.heap.size := by
  rcases Nat.lt_or_ge k W.heap.size with h' | h'
  · exact h'
  · simp [World.cell?, Array.getElem?_eq_none h'] at h

theorem spot_none {a : Addr} {y : Value} (h : W.cell? a = some y) : a = at_ a.block a.off := by
  obtain ⟨b, o, s⟩ := a
  cases s with
  | none => rfl
  | some s =>
    simp only [World.cell?, Option.isSome_some, if_true] at h
    split at h <;> simp at h

def get2v (xs : List (List Value)) (i j : Nat) : Option Value := (xs[i]?).bind (·[j]?)
theorem sh_slice {n fuel : Nat} {t e : TypeId} {cs : List Value} {d : DataW H} {ps : List MemPlace} (hu : P.underlying t = some (.slice e)) (he : 0 < P.cellsOf e)
    (ih : ∀ (fuel : Nat) (cs : List Value) (d : DataW H) (ps : List MemPlace), DataW.trod enc P W 0 (fun _ => true) true fuel e cs = some (d, ps) → (∀ n ∈ d.weights P e, n ≤ reachBytes) → ∃ xs, Sh P reach n e xs ∧ VRs W xs cs)
    (h : DataW.trod enc P W 0 (fun _ => true) true fuel t cs = some (d, ps)) (hw : ∀ n ∈ d.weights P t, n ≤ reachBytes) : ∃ xs, (xs = [.v (.slice none 0 0)] ∨ ∃ ys, xs = [.lst false ys] ∧ reach ys.length (P.bytesOf e) ∧ ∀ c ∈ ys, Sh P reach n e c) ∧ VRs W xs cs := by
  rcases DataW.trod_slice hu h with ⟨rfl, -⟩ | ⟨a, len, cap, elems, rest, m, rfl, rfl, heq, -, hl, -, hlen, hel, -, -⟩
  · exact ⟨_, .inl rfl, .one rfl fun ρ => .v⟩
  · simp only [Prod.mk.injEq] at heq
    obtain ⟨rfl, -⟩ := heq
    simp only [DataW.weights, hu, List.mem_cons, List.mem_append] at hw
    have hbound : reach len (P.bytesOf e) := by
      have := hw _ (.inl rfl)
      simp only [List.length_map, hlen] at this
      refine Nat.le_trans (Nat.mul_le_mul_right _ (Nat.le_add_right _ _)) this
    have hex : ∀ i ∈ List.range len, ∃ p : List AV × List Value, W.cells? 0 (a.add (i * P.cellsOf e)) (P.cellsOf e) = some p.2 ∧ Sh P reach n e p.1 ∧ VRs W p.1 p.2 := by
      intro i hi
      simp only [List.mem_range] at hi
      have := hel i hi
      have hx : elems[i]? = some elems[i] := by simp [show i < elems.length by omega]
      rw [hx] at this
      obtain ⟨ci, h1, h2⟩ := Option.bind_eq_some_iff.1 this
      obtain ⟨xs, h3, h4⟩ := ih m ci _ _ h2 fun q hq => hw q (.inr (.inl (weightsAll_mem (List.mem_map_of_mem (List.getElem_mem _)) q hq)))
      exact ⟨(xs, ci), h1, h3, h4⟩
    obtain ⟨r, r1, r2⟩ := choose_list _ hex
    simp only [List.length_range] at r1
    have each : ∀ (i : Nat) p, r[i]? = some p → i < len ∧ W.cells? 0 (a.add (i * P.cellsOf e)) (P.cellsOf e) = some p.2 ∧ Sh P reach n e p.1 ∧ VRs W p.1 p.2 := by
      intro i p hp
      have hi : i < len := by have := lt_of_get hp; omega
      exact ⟨hi, r2 i i p (by simp [hi]) hp⟩
    cases r with
    | nil =>
      simp at r1; subst r1
      exact ⟨[.lst false []], .inr ⟨[], rfl, by simp [reach], fun c hc => by simp at hc⟩, .one rfl fun ρ => .lst0 (fun h => by simp at h)⟩
    | cons p0 r' =>
      have ha : a = at_ a.block a.off := by
        obtain ⟨-, h1, -, -⟩ := each 0 p0 rfl
        obtain ⟨-, c1, c2⟩ := World.cells?_some h1
        have := c2 0 he
        have hy : p0.2[0]? = some (p0.2[0]'(by omega)) := by simp
        rw [hy] at this
        exact spot_none (by simpa [Addr.add] using this)
      refine ⟨[.lst false ((p0 :: r').map (·.1))], .inr ⟨_, rfl, by simpa only [List.length_map, r1] using hbound, fun c hc => ?_⟩, .one rfl fun ρ => ?_⟩
      · obtain ⟨p, hp, rfl⟩ := List.mem_map.1 hc
        obtain ⟨i, hi, rfl⟩ := List.getElem_of_mem hp
        exact (each i _ (List.getElem?_eq_getElem hi)).2.2.1
      · rw [ha]
        have hlen' : len = ((p0 :: r').map (·.1)).length := by simp only [List.length_map]; omega
        rw [hlen']
        have g2 : ∀ i j x, get2 ((p0 :: r').map (·.1)) i j = some x → ∃ y, get2v ((p0 :: r').map (·.2)) i j = some y ∧ W.cell? (at_ a.block (a.off + (i * P.cellsOf e + j))) = some y ∧ okc x = true ∧ ∀ ρ, VR Hp.nil ρ (fun k _ => k < W.heap.size) W x y := by
          intro i j x hx
          obtain ⟨c, hc, hx⟩ := Option.bind_eq_some_iff.1 hx
          rw [List.getElem?_map] at hc
          obtain ⟨p, hp, rfl⟩ := Option.map_eq_some_iff.1 hc
          obtain ⟨-, e1, e2, e3⟩ := each i p hp
          obtain ⟨-, c1, c2⟩ := World.cells?_some e1
          have hj : j < p.2.length := by have := lt_of_get hx; rw [e3.1] at this; exact this
          have hy : p.2[j]? = some p.2[j] := by simp [hj]
          obtain ⟨o1, o2⟩ := e3.2 j x p.2[j] hx hy
          refine ⟨p.2[j], Option.bind_eq_some_iff.2 ⟨p.2, by rw [List.getElem?_map, hp]; rfl, hy⟩, ?_, o1, o2⟩
          have := c2 j (by omega)
          rw [ha, add_at, add_at, hy, Nat.add_assoc] at this
          exact this
        refine .lst (sz := P.cellsOf e) (fun i j => (get2v ((p0 :: r').map (·.2)) i j).getD .nilFunc) (by simp) (fun c hc => ?_) (fun h => by simp at h) (by omega) (fun i j x hx => ?_) (fun i j x hx => ?_) (fun i j x hx => ?_)
        · obtain ⟨p, hp, rfl⟩ := List.mem_map.1 hc
          obtain ⟨i, hi, rfl⟩ := List.getElem_of_mem hp
          obtain ⟨-, e1, -, e3⟩ := each i _ (List.getElem?_eq_getElem hi)
          rw [e3.1]; exact (World.cells?_some e1).2.1
        · obtain ⟨y, -, -, h3, -⟩ := g2 i j x hx; exact h3
        · obtain ⟨y, h1, h2, -, -⟩ := g2 i j x hx
          rw [h1]; exact ⟨h2, cell_lt h2⟩
        · obtain ⟨y, h1, -, -, h4⟩ := g2 i j x hx
          rw [h1]; exact h4 ρ

theorem sh_fields {n fuel : Nat} (ih : ∀ (t : TypeId) (fuel : Nat) (cs : List Value) (d : DataW H) (ps : List MemPlace), plainT P n t = true → DataW.trod enc P W 0 (fun _ => true) true fuel t cs = some (d, ps) → (∀ n ∈ d.weights P t, n ≤ reachBytes) → ∃ xs, Sh P reach n t xs ∧ VRs W xs cs)
    (cs : List Value) : ∀ (fs : List Field) (o : Nat) (ys : List (DataW H × List MemPlace)), contig P o fs cs.length = true → (∀ f ∈ fs, plainT P n f.type = true) → ys.length = fs.length →
      (∀ (i : Nat) (f : Field), fs[i]? = some f → DataW.trod enc P W 0 (fun _ => true) true fuel f.type ((cs.drop f.offset).take (P.cellsOf f.type)) = ys[i]?) →
      (∀ n ∈ DataW.weightsEach P (fs.map (·.type)) (ys.map (·.1)), n ≤ reachBytes) → ∃ xs, Parts (Sh P reach n) fs xs ∧ VRs W xs (cs.drop o) := by
  intro fs
  induction fs with
  | nil =>
    intro o ys hc _ _ _ _
    simp only [contig, beq_iff_eq] at hc
    exact ⟨[], rfl, by rw [List.drop_eq_nil_of_le (by omega)]; exact .nil⟩
  | cons f fs ihf =>
    intro o ys hc hp hl hy hw
    simp only [contig, Bool.and_eq_true, beq_iff_eq] at hc
    obtain ⟨rfl, hc⟩ := hc
    cases ys with
    | nil => simp at hl
    | cons y ys =>
      simp only [List.map_cons, DataW.weightsEach, List.mem_append] at hw
      have h0 := hy 0 f rfl
      simp only [List.getElem?_cons_zero] at h0
      obtain ⟨xs, h1, h2⟩ := ih f.type fuel _ y.1 y.2 (hp f (by simp)) h0 fun q hq => hw q (.inl hq)
      obtain ⟨xs', h3, h4⟩ := ihf (f.offset + P.cellsOf f.type) ys hc (fun g hg => hp g (by simp [hg])) (by simpa using hl) (fun i g hg => by simpa using hy (i + 1) g (by simpa using hg)) fun q hq => hw q (.inr hq)
      refine ⟨xs ++ xs', ⟨xs, xs', rfl, h1, h3⟩, ?_⟩
      have := h2.app h4
      rwa [← List.drop_drop, List.take_append_drop] at this

/-- What is read of a plain type is of its shape. -/
theorem trod_sh : ∀ (n : Nat) (t : TypeId) (fuel : Nat) (cs : List Value) (d : DataW H) (ps : List MemPlace), plainT P n t = true → DataW.trod enc P W 0 (fun _ => true) true fuel t cs = some (d, ps) → (∀ n ∈ d.weights P t, n ≤ reachBytes) → ∃ xs, Sh P reach n t xs ∧ VRs W xs cs := by
  intro n
  induction n with
  | zero => intro t fuel cs d ps h; simp [plainT] at h
  | succ n ih =>
    intro t fuel cs d ps hp h hw
    cases hu : P.underlying t with
    | none => simp [plainT, hu] at hp
    | some D =>
      cases D <;> simp only [plainT, hu] at hp <;> try (simp at hp; done)
      case bool =>
        obtain ⟨b, rfl, -⟩ := DataW.trod_bool hu h
        exact ⟨[.v (.bool b)], by simp [Sh, hu], .one rfl fun ρ => .v⟩
      case int k =>
        obtain ⟨z, rfl, -, hz⟩ := DataW.trod_int hu h
        exact ⟨[.v (.int k z)], by simp [Sh, hu, hz], .one rfl fun ρ => .v⟩
      case string =>
        obtain ⟨s, rfl, heq, -⟩ := DataW.trod_string hu h
        simp only [Prod.mk.injEq] at heq
        obtain ⟨rfl, -⟩ := heq
        refine ⟨[.v (.string s)], ?_, .one rfl fun ρ => .v⟩
        simp only [Sh, hu]
        refine ⟨s, rfl, ?_⟩
        have := hw s.data.toList.length (by simp [DataW.weights])
        simp only [reach, Nat.mul_one]
        exact this
      case slice e =>
        simp only [Bool.and_eq_true, decide_eq_true_eq] at hp
        obtain ⟨xs, h1, h2⟩ := sh_slice hu hp.1 (fun fuel cs d ps => ih e fuel cs d ps hp.2) h hw
        exact ⟨xs, by simp only [Sh, hu]; exact h1, h2⟩
      case struct fs =>
        simp only [Bool.and_eq_true, List.all_eq_true] at hp
        obtain ⟨ys, m, rfl, heq, hl, hys, hf⟩ := DataW.trod_struct hu h
        simp only [Prod.mk.injEq] at heq
        obtain ⟨rfl, -⟩ := heq
        simp only [DataW.weights, hu] at hw
        obtain ⟨xs, h1, h2⟩ := sh_fields ih cs fs.toList 0 ys (by rw [hl]; exact hp.1) (fun f hf => hp.2 f hf) (by simpa using hys) (fun i f hf' => hf i f (by simpa using hf')) hw
        exact ⟨xs, by simp only [Sh, hu]; exact h1, by simpa using h2⟩

theorem arg_sh {n : Nat} {t : TypeId} {v : Value} {d : DataW H} {ps : List MemPlace} {r : Reach} {b : Nat} (hp : plainT P n t = true) (hval : Value.okWide P W r b t v) (h : DataW.Trod enc P W 0 (fun _ => true) true t v d ps) (hw : ∀ n ∈ d.weights P t, n ≤ reachBytes) :
    ∃ x, ArgSh P reach n t x ∧ ∀ ρ, VR Hp.nil ρ (fun k _ => k < W.heap.size) W x v := by
  obtain ⟨fuel, h⟩ := h
  obtain ⟨xs, h1, h2⟩ := trod_sh n t fuel _ d ps hp h hw
  have key : v.cells = #[v] → aggT P t ≠ some true → ∃ x, ArgSh P reach n t x ∧ ∀ ρ, VR Hp.nil ρ (fun k _ => k < W.heap.size) W x v := by
    intro hv ha
    rw [hv] at h2
    obtain ⟨x, rfl⟩ : ∃ x, xs = [x] := by
      have := h2.1
      simp at this
      exact List.length_eq_one_iff.1 this
    refine ⟨x, ?_, (h2.2 0 x v rfl (by simp)).2⟩
    unfold ArgSh
    split
    · contradiction
    · exact h1
  cases n with
  | zero => simp [plainT] at hp
  | succ n =>
    cases hu : P.underlying t with
    | none => simp [plainT, hu] at hp
    | some D =>
      cases D <;> simp only [plainT, hu] at hp <;> try (simp at hp; done)
      case bool => obtain ⟨b, rfl⟩ := okWide_bool hu hval; exact key rfl (by simp [aggT, hu, aggD])
      case int => obtain ⟨b, rfl⟩ := okWide_int hu hval; exact key rfl (by simp [aggT, hu, aggD])
      case string => obtain ⟨b, rfl⟩ := okWide_string hu hval; exact key rfl (by simp [aggT, hu, aggD])
      case slice => obtain ⟨a, l, c, rfl⟩ := okWide_slice hu hval; exact key rfl (by simp [aggT, hu, aggD])
      case struct fs =>
        simp only [Value.okWide, hu] at hval
        obtain ⟨cs, rfl, -, -⟩ := hval
        refine ⟨.agg xs, ?_, fun ρ => ?_⟩
        · unfold ArgSh
          simp only [aggT, hu, Option.map_some, aggD]
          exact ⟨xs, rfl, h1⟩
        · refine .agg (by simpa [Value.cells] using h2.1) fun i x y hx hy => ?_
          exact (h2.2 i x y hx (by simpa [Value.cells] using hy)).2 ρ

theorem args_sh {n : Nat} {r : Reach} {b : Nat} : ∀ (ts : List TypeId) (vs : List Value) (ds : List (DataW H)) (ps : List MemPlace), ts.all (plainT P n) = true → DataW.TrodAll enc P W 0 (fun _ => true) true ts vs ds ps →
    (∀ (j : Nat) t v, ts[j]? = some t → vs[j]? = some v → Value.okWide P W r b t v) → (∀ n ∈ DataW.weightsEach P ts ds, n ≤ reachBytes) →
    ∃ as, ArgsSh P reach n ts as ∧ as.length = vs.length ∧ ∀ (i : Nat) x y, as[i]? = some x → vs[i]? = some y → ∀ ρ, VR Hp.nil ρ (fun k _ => k < W.heap.size) W x y := by
  intro ts
  induction ts with
  | nil =>
    intro vs ds ps _ h _ _
    obtain ⟨rfl, rfl, rfl⟩ := Go.ChangeShapes.trodAll_nil h
    exact ⟨[], rfl, rfl, fun i x y h => by simp at h⟩
  | cons t ts ih =>
    intro vs ds ps hp h hval hw
    obtain ⟨v, vs', d, ds', p, q, rfl, rfl, rfl, h1, h2⟩ := Go.ChangeShapes.trodAll_cons h
    simp only [List.all_cons, Bool.and_eq_true] at hp
    simp only [DataW.weightsEach, List.mem_append] at hw
    obtain ⟨x, g1, g2⟩ := arg_sh hp.1 (hval 0 t v rfl rfl) h1 fun q hq => hw q (.inl hq)
    obtain ⟨as, g3, g4, g5⟩ := ih vs' ds' q hp.2 h2 (fun j t v ht hv => hval (j + 1) t v (by simpa using ht) (by simpa using hv)) fun q hq => hw q (.inr hq)
    refine ⟨x :: as, ⟨x, as, rfl, g1, g3⟩, by simp [g4], fun i a c ha hc => ?_⟩
    cases i with
    | zero => simp at ha hc; subst ha hc; exact g2
    | succ i => exact g5 i a c (by simpa using ha) (by simpa using hc)

theorem trodAll_below (hl : laidOutB P = true) {W' : World} (hb : Below W.heap.size W W') : ∀ (ts : List TypeId) (vs : List Value) (ds : List (DataW H)) (ps : List MemPlace), ts.all (fun t => P.readableRec t && decide (t < P.types.size)) = true →
    DataW.TrodAll enc P W 0 (fun _ => true) true ts vs ds ps → DataW.TrodAll enc P W' 0 (fun b => decide (b < W.heap.size)) true ts vs ds ps := by
  intro ts
  induction ts with
  | nil =>
    intro vs ds ps _ h
    obtain ⟨rfl, rfl, rfl⟩ := Go.ChangeShapes.trodAll_nil h
    rfl
  | cons t ts ih =>
    intro vs ds ps hp h
    obtain ⟨v, vs', d, ds', p, q, rfl, rfl, rfl, h1, h2⟩ := Go.ChangeShapes.trodAll_cons h
    simp only [List.all_cons, Bool.and_eq_true, decide_eq_true_eq] at hp
    refine ⟨p, q, Below.trod hl hp.1.1 hp.1.2 h1 hb (fun x hx => ?_), ih _ _ _ hp.2 h2, rfl⟩
    obtain ⟨m, hm⟩ := h1
    exact DataW.trod_lt m _ _ _ hm x hx

/-- The law's call, from what the row gives. -/
theorem law_call {cfg : Cfg} (hprim : PrimOk P cfg) (hT : ∀ t ∈ tabs, ∃ o, W.heap[t.1]? = some o ∧ t.2 o) {f n : Nat} {ts : List TypeId} (hp : ts.all (plainT P n) = true) (law : ∀ as, ArgsSh P reach n ts as → ∃ H', call P cfg 0 f as Hp.nil = some (.v (.bool true), H'))
    {args : Array Value} {ds gs : List (DataW H)} {ps : List MemPlace} {r : Reach} {b : Nat} {us : List TypeId} (h : DataW.TrodAll enc P W 0 (fun _ => true) true ts args.toList ds ps) (hval : ∀ (j : Nat) t v, ts[j]? = some t → args[j]? = some v → Value.okWide P W r b t v)
    (hsz : (DataW.weightsEach P (ts ++ us) (ds ++ gs)).all (· ≤ reachBytes) = true) :
    Calls P f args W fun e W' => e = .returned (.bool true) ∧ Below W.heap.size W W' := by
  have hlen : ∀ (ts : List TypeId) (vs : List Value) (ds : List (DataW H)) (ps : List MemPlace), DataW.TrodAll enc P W 0 (fun _ => true) true ts vs ds ps → ds.length = ts.length := by
    intro ts
    induction ts with
    | nil => intro vs ds ps h; obtain ⟨rfl, rfl, rfl⟩ := Go.ChangeShapes.trodAll_nil h; rfl
    | cons t ts ih =>
      intro vs ds ps h
      obtain ⟨v, vs', d, ds', p, q, rfl, rfl, rfl, h1, h2⟩ := Go.ChangeShapes.trodAll_cons h
      simp [ih _ _ _ h2]
  have hw : ∀ n ∈ DataW.weightsEach P ts ds, n ≤ reachBytes := by
    intro q hq
    have hmem : ∀ (ts : List TypeId) (ds : List (DataW H)), ds.length = ts.length → ∀ q ∈ DataW.weightsEach P ts ds, q ∈ DataW.weightsEach P (ts ++ us) (ds ++ gs) := by
      intro ts
      induction ts with
      | nil => intro ds h q hq; simp at h; subst h; simp [DataW.weightsEach] at hq
      | cons t ts ih =>
        intro ds h q hq
        cases ds with
        | nil => simp at h
        | cons d ds =>
          simp only [List.cons_append, DataW.weightsEach, List.mem_append] at hq ⊢
          rcases hq with hq | hq
          · exact .inl hq
          · exact .inr (ih ds (by simpa using h) q hq)
    have := List.all_eq_true.1 hsz q (hmem ts ds (hlen _ _ _ _ h) q hq)
    simpa using this
  obtain ⟨as, h1, h2, h3⟩ := args_sh ts args.toList ds ps hp h (fun j t v ht hv => hval j t v ht (by simpa using hv)) hw
  obtain ⟨H', hc⟩ := law as h1
  exact real_law (ρ := fun _ => ⟨0, 0, 0⟩) hprim hc (fun k o h => h) (fun t ht => by
    obtain ⟨y, h1, h2⟩ := hT t ht
    refine ⟨?_, y, h1, h2⟩
    rcases Nat.lt_or_ge t.1 W.heap.size with h | h
    · exact h
    · rw [Array.getElem?_eq_none h] at h1; simp at h1) (by simpa using h2) (fun i x y hx hy => h3 i x y hx (by simpa using hy) _)
end
end Go.Proofs.YtnejoidfbgklbaaGreatDoor.Eng
