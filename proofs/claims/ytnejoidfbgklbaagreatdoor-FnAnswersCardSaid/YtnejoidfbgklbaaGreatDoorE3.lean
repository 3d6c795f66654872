/- The engine, part 3: when abstract values and heaps stand for real ones, and what keeps that. -/
import Derived.Test.YtnejoidfbgklbaaGreatDoorE2
import Derived.Test.YtnejoidfbgklbaaGreatDoorE0
import Derived.Below
namespace Go.Proofs.YtnejoidfbgklbaaGreatDoor.Eng
open Go Go.RowKit
set_option linter.unusedSimpArgs false
set_option linter.unusedVariables false

/-- Where an own block lies: its block, its first cell, and how many cells are its own. -/
structure Loc where
  blk : Nat
  off : Nat
  lim : Nat
abbrev at_ (k o : Nat) : Addr := ⟨k, o, none⟩
theorem add_at (k o n : Nat) : (at_ k o).add n = at_ k (o + n) := by
  unfold Addr.add at_; split
  · rename_i h; subst h; rfl
  · rfl

theorem cell_old (w : World) (ob : Obj) (k o : Nat) (h : k < w.heap.size) : (w.alloc ob).cell? (at_ k o) = w.cell? (at_ k o) := by
  have e := Below.heap_alloc w ob k h
  simp only [World.cell?, e]
theorem frozen_old (w : World) (ob : Obj) (k o : Nat) (h : k < w.heap.size) : (w.alloc ob).frozen? (at_ k o) = w.frozen? (at_ k o) := by
  have e := Below.heap_alloc w ob k h
  simp only [World.frozen?, e]
theorem heap_new (w : World) (ob : Obj) : (w.alloc ob).heap[w.heap.size]? = some ob := by
  show (w.heap.push ob)[w.heap.size]? = _
  simp
theorem cell_new (w : World) (ys : Array Value) (el : TypeId) (fz : Nat × Nat) (i : Nat) : (w.alloc (.cells ys el fz)).cell? (at_ w.heap.size i) = ys[i]? := by
  simp only [World.cell?, heap_new]; rfl
theorem frozen_new (w : World) (ys : Array Value) (el : TypeId) (i : Nat) : (w.alloc (.cells ys el)).frozen? (at_ w.heap.size i) = false := by
  simp only [World.frozen?, heap_new]; simp

/-- A slice over an own block of L cells: with room of its own up to 'lim', or empty and without room. -/
def SlOk (l : Loc) (L sz o n : Nat) (a : Option Addr) (c : Nat) : Prop :=
  (n = 0 ∧ c = 0 ∧ L ≤ o) ∨ (a = some (at_ l.blk (l.off + o)) ∧ o + n * sz ≤ L ∧ L ≤ o + c * sz ∧ o + c * sz ≤ l.lim)

def get2 (xs : List (List AV)) (i j : Nat) : Option AV := (xs[i]?).bind (·[j]?)

inductive VR (H : Hp) (ρ : Nat → Loc) (F : Nat → Nat → Prop) (w : World) : AV → Value → Prop
  | any {x} : VR H ρ F w .any x
  | v {x} : VR H ρ F w (.v x) x
  | lst0 {fu a c} (h : fu = true → c = 0) : VR H ρ F w (.lst fu []) (.slice a 0 c)
  | lst {fu xs blk off c sz} (rd : Nat → Nat → Value) (hne : xs ≠ []) (hs : ∀ x ∈ xs, x.length = sz) (hf : fu = true → c = xs.length) (hc : xs.length ≤ c) (ho : ∀ i j x, get2 xs i j = some x → okc x = true)
      (hm : ∀ i j x, get2 xs i j = some x → w.cell? (at_ blk (off + (i * sz + j))) = some (rd i j) ∧ F blk (off + (i * sz + j)))
      (hv : ∀ i j x, get2 xs i j = some x → VR H ρ F w x (rd i j)) : VR H ρ F w (.lst fu xs) (.slice (some (at_ blk off)) xs.length c)
  | fp {cs o blk off} (rd : Nat → Value) (hm : ∀ (j : Nat) x, cs[j]? = some x → w.cell? (at_ blk (off + j)) = some (rd j) ∧ F blk (off + j))
      (hv : ∀ (j : Nat) x, cs[j]? = some x → VR H ρ F w x (rd j)) : VR H ρ F w (.fp cs o) (.pointer (some (at_ blk (off + o))))
  | sl {b sz o n a c} (hb : b < H.g) (h : ∀ cs, H.h b = some cs → SlOk (ρ b) cs.length sz o n a c) (hn : a = none → n = 0 := by intro h; simp at h) : VR H ρ F w (.sl b sz o n) (.slice a n c)
  | ptr {b o a} (hb : b < H.g) (h : ∀ cs, H.h b = some cs → a = at_ (ρ b).blk ((ρ b).off + o)) : VR H ρ F w (.ptr b o) (.pointer (some a))
  | agg {cs} {ys : Array Value} (hl : cs.length = ys.size) (hv : ∀ (i : Nat) x y, cs[i]? = some x → ys[i]? = some y → VR H ρ F w x y) : VR H ρ F w (.agg cs) (.agg ys)
  | tup {cs} {ys : Array Value} (hl : cs.length = ys.size) (hv : ∀ (i : Nat) x y, cs[i]? = some x → ys[i]? = some y → VR H ρ F w x y) : VR H ρ F w (.tup cs) (.tuple ys)
  | fn {f cs} {ys : Array Value} (hl : cs.length = ys.size) (hv : ∀ (i : Nat) x y, cs[i]? = some x → ys[i]? = some y → VR H ρ F w x y) : VR H ρ F w (.fn f cs) (.func (.func f) #[] ys)
  | ifc0 : VR H ρ F w (.ifc false) .nilIface
  | ifc1 {t p} : VR H ρ F w (.ifc true) (.iface t p)

/-- What a step keeps: blocks that live on lie where they lay and have as many cells; what is read reads as it did. -/
structure Step (H : Hp) (ρ : Nat → Loc) (F : Nat → Nat → Prop) (w : World) (H' : Hp) (ρ' : Nat → Loc) (F' : Nat → Nat → Prop) (w' : World) : Prop where
  g : H.g ≤ H'.g
  live : ∀ b cs', b < H.g → H'.h b = some cs' → ∃ cs, H.h b = some cs ∧ cs'.length = cs.length ∧ ρ' b = ρ b
  fr : ∀ k o, F k o → F' k o ∧ w'.cell? (at_ k o) = w.cell? (at_ k o)

theorem Step.refl (H : Hp) (ρ : Nat → Loc) (F : Nat → Nat → Prop) (w : World) : Step H ρ F w H ρ F w :=
  ⟨Nat.le_refl _, fun _ cs _ h => ⟨cs, h, rfl, rfl⟩, fun _ _ h => ⟨h, rfl⟩⟩

theorem Step.trans {H : Hp} {ρ : Nat → Loc} {F : Nat → Nat → Prop} {w : World} {H' : Hp} {ρ' : Nat → Loc} {F' : Nat → Nat → Prop} {w' : World} {H2 : Hp} {ρ2 : Nat → Loc} {F2 : Nat → Nat → Prop} {w2 : World}
    (a : Step H ρ F w H' ρ' F' w') (b : Step H' ρ' F' w' H2 ρ2 F2 w2) : Step H ρ F w H2 ρ2 F2 w2 := by
  refine ⟨Nat.le_trans a.g b.g, fun i cs' hi h => ?_, fun k o h => ?_⟩
  · obtain ⟨c1, h1, e1, r1⟩ := b.live i cs' (Nat.lt_of_lt_of_le hi a.g) h
    obtain ⟨c2, h2, e2, r2⟩ := a.live i c1 hi h1
    exact ⟨c2, h2, e1.trans e2, r1.trans r2⟩
  · obtain ⟨f1, e1⟩ := a.fr k o h
    obtain ⟨f2, e2⟩ := b.fr k o f1
    exact ⟨f2, e2.trans e1⟩

theorem VR.mono {H : Hp} {ρ : Nat → Loc} {F : Nat → Nat → Prop} {w : World} {H' : Hp} {ρ' : Nat → Loc} {F' : Nat → Nat → Prop} {w' : World}
    (s : Step H ρ F w H' ρ' F' w') {x : AV} {y : Value} (h : VR H ρ F w x y) : VR H' ρ' F' w' x y := by
  induction h with
  | any => exact .any
  | v => exact .v
  | lst0 h => exact .lst0 h
  | lst rd hne hs hf hc ho hm hv ih => exact .lst rd hne hs hf hc ho (fun i j x e => by obtain ⟨c, f⟩ := hm i j x e; obtain ⟨f', c'⟩ := s.fr _ _ f; exact ⟨c'.trans c, f'⟩) ih
  | fp rd hm hv ih => exact .fp rd (fun j x e => by obtain ⟨c, f⟩ := hm j x e; obtain ⟨f', c'⟩ := s.fr _ _ f; exact ⟨c'.trans c, f'⟩) ih
  | sl hb h hn => exact .sl (Nat.lt_of_lt_of_le hb s.g) (fun cs' e => by obtain ⟨cs, h1, e1, r1⟩ := s.live _ cs' hb e; rw [e1, r1]; exact h cs h1) hn
  | ptr hb h => exact .ptr (Nat.lt_of_lt_of_le hb s.g) fun cs' e => by obtain ⟨cs, h1, e1, r1⟩ := s.live _ cs' hb e; rw [r1]; exact h cs h1
  | agg hl hv ih => exact .agg hl ih
  | tup hl hv ih => exact .tup hl ih
  | fn hl hv ih => exact .fn hl ih
  | ifc0 => exact .ifc0
  | ifc1 => exact .ifc1

/-- The tables lie below the base, and hold what they hold. -/
def Tab (base : Nat) (w : World) : Prop := ∀ t ∈ tabs, t.1 < base ∧ ∃ o, w.heap[t.1]? = some o ∧ t.2 o
theorem Tab.below {base : Nat} {w w' : World} (T : Tab base w) (h : Below base w w') : Tab base w' := fun t ht => by
  obtain ⟨h1, o, h2, h3⟩ := T t ht
  exact ⟨h1, o, (h.block _ h1).trans h2, h3⟩
theorem Tab.up {base base' : Nat} {w : World} (T : Tab base w) (h : base ≤ base') : Tab base' w := fun t ht => by
  obtain ⟨h1, o⟩ := T t ht
  exact ⟨Nat.lt_of_lt_of_le h1 h, o⟩

structure Inv (bas : Nat) (H : Hp) (ρ : Nat → Loc) (F : Nat → Nat → Prop) (w : World) : Prop where
  lt : ∀ b cs, H.h b = some cs → b < H.g
  blk : ∀ b cs, H.h b = some cs → bas ≤ (ρ b).blk ∧ (ρ b).blk < w.heap.size ∧ cs.length ≤ (ρ b).lim
  mem : ∀ b cs, H.h b = some cs → ∀ i, i < (ρ b).lim → (∃ x, w.cell? (at_ (ρ b).blk ((ρ b).off + i)) = some x) ∧ w.frozen? (at_ (ρ b).blk ((ρ b).off + i)) = false
  val : ∀ b cs (i : Nat) x, H.h b = some cs → cs[i]? = some x → ∃ y, w.cell? (at_ (ρ b).blk ((ρ b).off + i)) = some y ∧ VR H ρ F w x y
  dis : ∀ b b' cs cs', b ≠ b' → H.h b = some cs → H.h b' = some cs' → ∀ i j, i < (ρ b).lim → j < (ρ b').lim → ¬ ((ρ b).blk = (ρ b').blk ∧ (ρ b).off + i = (ρ b').off + j)
  sep : ∀ b cs, H.h b = some cs → ∀ i, i < (ρ b).lim → ¬ F (ρ b).blk ((ρ b).off + i)
  fin : ∀ k o, F k o → k < w.heap.size
  one : ∀ b cs x, H.h b = some cs → x ∈ cs → okc x = true
  base : bas ≤ w.heap.size
  tab : Tab bas w

theorem Inv.nil {w : World} {F : Nat → Nat → Prop} (ρ : Nat → Loc) (hF : ∀ k o, F k o → k < w.heap.size) (hT : Tab w.heap.size w) : Inv w.heap.size Hp.nil ρ F w :=
  ⟨fun _ _ h => by simp [Hp.nil] at h, fun _ _ h => by simp [Hp.nil] at h, fun _ _ h => by simp [Hp.nil] at h, fun _ _ _ _ h => by simp [Hp.nil] at h,
   fun _ _ _ _ _ h => by simp [Hp.nil] at h, fun _ _ h => by simp [Hp.nil] at h, hF, fun _ _ _ h => by simp [Hp.nil] at h, Nat.le_refl _, hT⟩

@[simp] theorem Hp.new_g (H : Hp) (cs : List AV) : (H.new cs).g = H.g + 1 := rfl
@[simp] theorem Hp.set_g (H : Hp) (b : Nat) (cs : List AV) : (H.set b cs).g = H.g := rfl
@[simp] theorem Hp.del_g (H : Hp) (b : Nat) : (H.del b).g = H.g := rfl
theorem Hp.new_h (H : Hp) (cs : List AV) (b : Nat) : (H.new cs).h b = if b = H.g then some cs else H.h b := rfl
theorem Hp.set_h (H : Hp) (b : Nat) (cs : List AV) (b' : Nat) : (H.set b cs).h b' = if b' = b then some cs else H.h b' := rfl
theorem Hp.del_h (H : Hp) (b b' : Nat) : (H.del b).h b' = if b' = b then none else H.h b' := rfl

/-- The real side of a step that makes one new block. -/
theorem step_alloc {H : Hp} {ρ : Nat → Loc} {F : Nat → Nat → Prop} {w : World} (hF : ∀ k o, F k o → k < w.heap.size) (o : Obj) {H' : Hp} {ρ' : Nat → Loc}
    (hg : H.g ≤ H'.g) (hl : ∀ b cs', b < H.g → H'.h b = some cs' → ∃ cs, H.h b = some cs ∧ cs'.length = cs.length ∧ ρ' b = ρ b) : Step H ρ F w H' ρ' F (w.alloc o) :=
  ⟨hg, hl, fun k i h => ⟨h, cell_old _ _ _ _ (hF k i h)⟩⟩

def setρ (ρ : Nat → Loc) (b : Nat) (l : Loc) : Nat → Loc := fun b' => if b' = b then l else ρ b'

/-- A new own block: its cells and what room stands behind them. 'del': an own block that is given up. -/
theorem Inv.alloc {base : Nat} {H : Hp} {ρ : Nat → Loc} {F : Nat → Nat → Prop} {w : World} (I : Inv base H ρ F w) {H0 : Hp} (h0 : ∀ b cs, H0.h b = some cs → H.h b = some cs) (hg0 : H0.g = H.g)
    {cs : List AV} {ys : Array Value} (el : TypeId) (hn : cs.length ≤ ys.size) (hone : ∀ x ∈ cs, okc x = true) (hv : ∀ (i : Nat) x y, cs[i]? = some x → ys[i]? = some y → VR H ρ F w x y) :
    Inv base (H0.new cs) (setρ ρ H.g ⟨w.heap.size, 0, ys.size⟩) F (w.alloc (.cells ys el)) ∧ Step H ρ F w (H0.new cs) (setρ ρ H.g ⟨w.heap.size, 0, ys.size⟩) F (w.alloc (.cells ys el)) := by
  have st : Step H ρ F w (H0.new cs) (setρ ρ H.g ⟨w.heap.size, 0, ys.size⟩) F (w.alloc (.cells ys el)) := by
    refine step_alloc I.fin _ (by simp [hg0]) fun b cs' hb h => ?_
    rw [Hp.new_h, if_neg (by omega)] at h
    exact ⟨cs', h0 b cs' h, rfl, by simp [setρ, Nat.ne_of_lt hb]⟩
  refine ⟨?_, st⟩
  have hcase : ∀ b c, (H0.new cs).h b = some c → (b = H.g ∧ c = cs) ∨ (b ≠ H.g ∧ H.h b = some c) := by
    intro b c h
    rw [Hp.new_h, hg0] at h
    split at h
    · exact .inl ⟨‹_›, by simpa using h.symm⟩
    · exact .inr ⟨‹_›, h0 b c h⟩
  have hρ : ∀ b, b ≠ H.g → setρ ρ H.g ⟨w.heap.size, 0, ys.size⟩ b = ρ b := fun b h => by simp [setρ, h]
  have hρg : setρ ρ H.g ⟨w.heap.size, 0, ys.size⟩ H.g = ⟨w.heap.size, 0, ys.size⟩ := by simp [setρ]
  constructor
  · intro b c h
    rcases hcase b c h with ⟨rfl, rfl⟩ | ⟨hne, h⟩
    · simp [hg0]
    · have := I.lt b c h; simp [hg0]; omega
  · intro b c h
    rcases hcase b c h with ⟨rfl, rfl⟩ | ⟨hne, h⟩
    · rw [hρg]; exact ⟨I.base, by simp, hn⟩
    · rw [hρ b hne]; obtain ⟨h1, h2, h3⟩ := I.blk b c h; exact ⟨h1, by simp; omega, h3⟩
  · intro b c h i hi
    rcases hcase b c h with ⟨rfl, rfl⟩ | ⟨hne, h⟩
    · rw [hρg] at hi ⊢
      simp only [Nat.zero_add] at hi ⊢
      exact ⟨⟨ys[i], by rw [cell_new]; simp [hi]⟩, frozen_new _ _ _ _⟩
    · rw [hρ b hne] at hi ⊢
      obtain ⟨h1, h2, h3⟩ := I.blk b c h
      obtain ⟨⟨x, hx⟩, hf⟩ := I.mem b c h i hi
      exact ⟨⟨x, by rw [cell_old _ _ _ _ h2]; exact hx⟩, by rw [frozen_old _ _ _ _ h2]; exact hf⟩
  · intro b c i x h hx
    rcases hcase b c h with ⟨rfl, rfl⟩ | ⟨hne, h⟩
    · rw [hρg]
      simp only [Nat.zero_add]
      have hi : i < c.length := by
        rcases Nat.lt_or_ge i c.length with h | h
        · exact h
        · rw [List.getElem?_eq_none h] at hx; simp at hx
      have hi2 : i < ys.size := by omega
      exact ⟨ys[i], by rw [cell_new]; simp [hi2], (hv i x ys[i] hx (by simp [hi2])).mono st⟩
    · rw [hρ b hne]
      obtain ⟨h1, h2, h3⟩ := I.blk b c h
      obtain ⟨y, hy, hr⟩ := I.val b c i x h hx
      exact ⟨y, by rw [cell_old _ _ _ _ h2]; exact hy, hr.mono st⟩
  · intro b b' c c' hbb h h' i j hi hj
    rcases hcase b c h with ⟨rfl, rfl⟩ | ⟨hne, hk⟩ <;> rcases hcase b' c' h' with ⟨rfl, rfl⟩ | ⟨hne', hk'⟩
    · exact absurd rfl hbb
    · rw [hρg, hρ b' hne']; obtain ⟨h1, h2, h3⟩ := I.blk b' c' hk'; intro e; simp at e; omega
    · rw [hρg, hρ b hne]; obtain ⟨h1, h2, h3⟩ := I.blk b c hk; intro e; simp at e; omega
    · rw [hρ b hne] at hi ⊢; rw [hρ b' hne'] at hj ⊢; exact I.dis b b' c c' hbb hk hk' i j hi hj
  · intro b c h i hi hF
    rcases hcase b c h with ⟨rfl, rfl⟩ | ⟨hne, h⟩
    · rw [hρg] at hF; have := I.fin _ _ hF; simp at this
    · rw [hρ b hne] at hi hF; exact I.sep b c h i hi hF
  · intro k o h; have := I.fin k o h; simp; omega
  · intro b c x h hx
    rcases hcase b c h with ⟨rfl, rfl⟩ | ⟨hne, h⟩
    · exact hone x hx
    · exact I.one b c x h hx
  · have := I.base; simp; omega
  · exact I.tab.below ((Below.refl _ _).alloc I.base _)

/-- A new block that is only read from now on. -/
theorem Inv.allocF {base : Nat} {H : Hp} {ρ : Nat → Loc} {F : Nat → Nat → Prop} {w w' : World} (I : Inv base H ρ F w) (hsz : w.heap.size ≤ w'.heap.size)
    (hc : ∀ k o, k < w.heap.size → w'.cell? (at_ k o) = w.cell? (at_ k o)) (hfz : ∀ k o, k < w.heap.size → w'.frozen? (at_ k o) = w.frozen? (at_ k o)) (hT : Tab base w')
    {F' : Nat → Nat → Prop} (hF : ∀ k o, F k o → F' k o) (hF' : ∀ k o, F' k o → F k o ∨ (w.heap.size ≤ k ∧ k < w'.heap.size)) :
    Inv base H ρ F' w' ∧ Step H ρ F w H ρ F' w' := by
  have st : Step H ρ F w H ρ F' w' := ⟨Nat.le_refl _, fun _ cs _ h => ⟨cs, h, rfl, rfl⟩, fun k o h => ⟨hF k o h, hc k o (I.fin k o h)⟩⟩
  refine ⟨⟨I.lt, fun b c h => ?_, fun b c h i hi => ?_, fun b c i x h hx => ?_, I.dis, fun b c h i hi hf => ?_, fun k o h => ?_, I.one, Nat.le_trans I.base hsz, hT⟩, st⟩
  · obtain ⟨h1, h2, h3⟩ := I.blk b c h; exact ⟨h1, by omega, h3⟩
  · obtain ⟨h1, h2, h3⟩ := I.blk b c h
    rw [hc _ _ h2, hfz _ _ h2]; exact I.mem b c h i hi
  · obtain ⟨h1, h2, h3⟩ := I.blk b c h
    obtain ⟨y, hy, hr⟩ := I.val b c i x h hx
    exact ⟨y, by rw [hc _ _ h2]; exact hy, hr.mono st⟩
  · rcases hF' _ _ hf with h' | ⟨h', _⟩
    · exact I.sep b c h i hi h'
    · obtain ⟨h1, h2, h3⟩ := I.blk b c h; omega
  · rcases hF' k o h with h' | ⟨_, h'⟩
    · exact Nat.lt_of_lt_of_le (I.fin k o h') hsz
    · exact h'

/-- Cells of one block have been written, all else is as it was. -/
structure Wrote (w w' : World) (k lo : Nat) (ys : List Value) : Prop where
  size : w'.heap.size = w.heap.size
  cell : ∀ k' o, w'.cell? (at_ k' o) = if k' = k ∧ lo ≤ o ∧ o < lo + ys.length then ys[o - lo]? else w.cell? (at_ k' o)
  frozen : ∀ k' o, w'.frozen? (at_ k' o) = w.frozen? (at_ k' o)
  os : w'.os = w.os
  tape : w'.tape = w.tape
  output : w'.output = w.output
  other : ∀ i, i ≠ k → w'.heap[i]? = w.heap[i]?

theorem Wrote.below {w w' : World} {k lo : Nat} {ys : List Value} (h : Wrote w w' k lo ys) {B : Nat} (hB : B ≤ k) : Below B w w' :=
  ⟨h.os, h.tape, h.output, by rw [h.size]; exact Nat.le_refl _, fun i hi => h.other i (by omega)⟩

theorem storeCells_wrote (P : Program) (ys : List Value) : ∀ (w : World) (k o i : Nat), (∀ j, j < ys.length → (∃ x, w.cell? (at_ k (o + i + j)) = some x) ∧ w.frozen? (at_ k (o + i + j)) = false) →
    (∀ y ∈ ys, y.oneCell' = true) → ∃ w', (storeCells (at_ k o) ys i).run P w = .ok () w' ∧ Wrote w w' k (o + i) ys := by
  induction ys with
  | nil =>
    intro w k o i _ _
    refine ⟨w, rfl, ⟨rfl, fun k' o' => ?_, fun _ _ => rfl, rfl, rfl, rfl, fun _ _ => rfl⟩⟩
    rw [if_neg (by rintro ⟨_, h1, h2⟩; simp at h2; omega)]
  | cons y ys ih =>
    intro w k o i hm hy
    obtain ⟨⟨x, hx⟩, hf⟩ := hm 0 (by simp)
    simp only [Nat.add_zero] at hx hf
    have hcell : ∀ k' o', (w.setCell (at_ k (o + i)) y).cell? (at_ k' o') = if k' = k ∧ o' = o + i then some y else w.cell? (at_ k' o') := by
      intro k' o'
      split
      · rename_i h; obtain ⟨rfl, rfl⟩ := h; exact World.cell?_setCell_same _ _ _ hx
      · rename_i h; exact World.cell?_setCell_other _ _ _ _ (by intro e; simp [at_] at e; exact h ⟨e.1.symm, e.2.symm⟩)
    obtain ⟨w', h1, h2⟩ := ih (w.setCell (at_ k (o + i)) y) k o (i + 1) (fun j hj => by
      obtain ⟨⟨x', hx'⟩, hf'⟩ := hm (j + 1) (by simp; omega)
      refine ⟨⟨x', ?_⟩, ?_⟩
      · rw [hcell, if_neg (by omega)]; rw [show o + (i + 1) + j = o + i + (j + 1) by omega]; exact hx'
      · rw [World.frozen?_setCell]; rw [show o + (i + 1) + j = o + i + (j + 1) by omega]; exact hf') (fun z hz => hy z (by simp [hz]))
    refine ⟨w', ?_, ⟨by rw [h2.size]; simp, fun k' o' => ?_, fun k' o' => by rw [h2.frozen]; simp, h2.os, h2.tape, h2.output, fun j hj => by rw [h2.other j hj]; exact Below.heap_setCell _ _ _ _ hj⟩⟩
    · simp only [storeCells, Sem.run_bind, add_at, run_store P w _ y .plain (hy y (by simp)), hx, hf, Bool.false_eq_true, if_false, Result.andThen_ok]
      exact h1
    · rw [h2.cell, hcell]
      by_cases hk : k' = k
      · subst hk
        by_cases he : o' = o + i
        · subst he
          rw [if_neg (by omega), if_pos ⟨rfl, rfl⟩, if_pos (by simp)]; simp
        · by_cases hr : o + i + 1 ≤ o' ∧ o' < o + i + 1 + ys.length
          · rw [if_pos ⟨rfl, by omega, by omega⟩, if_pos ⟨rfl, by omega, by simp; omega⟩]
            obtain ⟨d, hd⟩ : ∃ d, o' - (o + i) = d + 1 := ⟨o' - (o + i) - 1, by omega⟩
            rw [hd, show o' - (o + (i + 1)) = d by omega]; simp
          · rw [if_neg (by omega), if_neg (by simp [he]), if_neg (by simp; omega)]
      · rw [if_neg (by simp [hk]), if_neg (by simp [hk]), if_neg (by simp [hk])]

theorem setAll_length (ys : List AV) : ∀ (cs : List AV) (o : Nat), (setAll cs o ys).length = cs.length := by
  induction ys with
  | nil => intro cs o; rfl
  | cons y ys ih => intro cs o; rw [setAll, ih]; simp
theorem setAll_get (ys : List AV) : ∀ (cs : List AV) (o i : Nat), o + ys.length ≤ cs.length → (setAll cs o ys)[i]? = if o ≤ i ∧ i < o + ys.length then ys[i - o]? else cs[i]? := by
  induction ys with
  | nil => intro cs o i _; rw [setAll, if_neg (by rintro ⟨h1, h2⟩; simp at h2; omega)]
  | cons y ys ih =>
    intro cs o i h
    simp only [List.length_cons] at h
    rw [setAll, ih _ _ _ (by simp; omega)]
    by_cases he : i = o
    · subst he
      rw [if_neg (by omega), if_pos (by simp), List.getElem?_set_self (by omega)]; simp
    · rw [List.getElem?_set_ne (by omega)]
      by_cases hr : o + 1 ≤ i ∧ i < o + 1 + ys.length
      · rw [if_pos hr, if_pos (by simp; omega)]
        obtain ⟨d, hd⟩ : ∃ d, i - o = d + 1 := ⟨i - o - 1, by omega⟩
        rw [hd, show i - (o + 1) = d by omega]; simp
      · rw [if_neg hr, if_neg (by simp; omega)]

/-- Cells of an own block are written in place. -/
theorem Inv.write {base : Nat} {H : Hp} {ρ : Nat → Loc} {F : Nat → Nat → Prop} {w w' : World} (I : Inv base H ρ F w) {b : Nat} {cs : List AV} (hb : H.h b = some cs) {o : Nat} {xs : List AV} {ys : List Value}
    (hw : Wrote w w' (ρ b).blk ((ρ b).off + o) ys) (hl : xs.length = ys.length) (ho : o + xs.length ≤ cs.length) (hone : ∀ x ∈ xs, okc x = true) (hv : ∀ (i : Nat) x y, xs[i]? = some x → ys[i]? = some y → VR H ρ F w x y) :
    Inv base (H.set b (setAll cs o xs)) ρ F w' ∧ Step H ρ F w (H.set b (setAll cs o xs)) ρ F w' ∧ Below base w w' := by
  obtain ⟨hb1, hb2, hb3⟩ := I.blk b cs hb
  have houtF : ∀ k i, F k i → ¬ (k = (ρ b).blk ∧ (ρ b).off + o ≤ i ∧ i < (ρ b).off + o + ys.length) := by
    rintro k i hF ⟨rfl, h1, h2⟩
    have := I.sep b cs hb (i - (ρ b).off) (by omega)
    rw [show (ρ b).off + (i - (ρ b).off) = i by omega] at this
    exact this hF
  have st : Step H ρ F w (H.set b (setAll cs o xs)) ρ F w' := by
    refine ⟨Nat.le_refl _, fun b' cs' hlt h => ?_, fun k i hF => ⟨hF, by rw [hw.cell, if_neg (houtF k i hF)]⟩⟩
    rw [Hp.set_h] at h
    split at h
    · rename_i e; subst e; simp at h; subst h; exact ⟨cs, hb, setAll_length _ _ _, rfl⟩
    · exact ⟨cs', h, rfl, rfl⟩
  have hcase : ∀ b' c, (H.set b (setAll cs o xs)).h b' = some c → ∃ c0, H.h b' = some c0 ∧ c.length = c0.length ∧ ((b' = b ∧ c = setAll cs o xs) ∨ (b' ≠ b ∧ c = c0)) := by
    intro b' c h
    rw [Hp.set_h] at h
    split at h
    · rename_i e; subst e; simp at h; subst h; exact ⟨cs, hb, setAll_length _ _ _, .inl ⟨rfl, rfl⟩⟩
    · exact ⟨c, h, rfl, .inr ⟨‹_›, rfl⟩⟩
  refine ⟨⟨fun b' c h => ?_, fun b' c h => ?_, fun b' c h i hi => ?_, fun b' c i x h hx => ?_, fun b1 b2 c1 c2 hne h1 h2 i j hi hj => ?_, fun b' c h i hi => ?_, fun k i h => ?_, fun b' c x h hx => ?_, by rw [hw.size]; exact I.base, I.tab.below (hw.below hb1)⟩, st, hw.below hb1⟩
  · obtain ⟨c0, h0, -, -⟩ := hcase b' c h; exact I.lt b' c0 h0
  · obtain ⟨c0, h0, e, -⟩ := hcase b' c h; rw [hw.size, e]; exact I.blk b' c0 h0
  · obtain ⟨c0, h0, e, -⟩ := hcase b' c h
    obtain ⟨⟨x, hx⟩, hf⟩ := I.mem b' c0 h0 i hi
    rw [hw.frozen, hw.cell]
    refine ⟨?_, hf⟩
    split
    · rename_i hin; exact ⟨ys[(ρ b').off + i - ((ρ b).off + o)]'(by omega), by simp [show (ρ b').off + i - ((ρ b).off + o) < ys.length by omega]⟩
    · exact ⟨x, hx⟩
  · obtain ⟨c0, h0, e, hor⟩ := hcase b' c h
    rcases hor with ⟨rfl, rfl⟩ | ⟨hne, rfl⟩
    · rw [setAll_get _ _ _ _ ho] at hx
      rw [hw.cell]
      split at hx
      · rename_i hin
        have hi2 : i - o < ys.length := by omega
        refine ⟨ys[i - o], ?_, (hv (i - o) x _ hx (by simp [hi2])).mono st⟩
        rw [if_pos ⟨rfl, by omega, by omega⟩, show (ρ b').off + i - ((ρ b').off + o) = i - o by omega]; simp [hi2]
      · rename_i hin
        obtain ⟨y, hy, hr⟩ := I.val b' cs i x hb hx
        exact ⟨y, by rw [if_neg (by omega)]; exact hy, hr.mono st⟩
    · obtain ⟨y, hy, hr⟩ := I.val b' c i x h0 hx
      refine ⟨y, ?_, hr.mono st⟩
      have hi : i < c.length := by
        rcases Nat.lt_or_ge i c.length with h | h
        · exact h
        · rw [List.getElem?_eq_none h] at hx; simp at hx
      obtain ⟨g1, g2, g3⟩ := I.blk b' c h0
      rw [hw.cell, if_neg]
      · exact hy
      · rintro ⟨e1, e2, e3⟩
        have := I.dis b' b c cs hne h0 hb i ((ρ b').off + i - (ρ b).off) (by omega) (by omega)
        exact this ⟨e1, by omega⟩
  · obtain ⟨d1, g1, -, -⟩ := hcase b1 c1 h1; obtain ⟨d2, g2, -, -⟩ := hcase b2 c2 h2; exact I.dis b1 b2 d1 d2 hne g1 g2 i j hi hj
  · obtain ⟨c0, h0, -, -⟩ := hcase b' c h; exact I.sep b' c0 h0 i hi
  · rw [hw.size]; exact I.fin k i h
  · obtain ⟨c0, h0, e, hor⟩ := hcase b' c h
    rcases hor with ⟨rfl, rfl⟩ | ⟨hne, rfl⟩
    · obtain ⟨i, hi⟩ := List.mem_iff_getElem?.1 hx
      rw [setAll_get _ _ _ _ ho] at hi
      split at hi
      · exact hone x (List.mem_of_getElem? hi)
      · exact I.one b' cs x hb (List.mem_of_getElem? hi)
    · exact I.one b' c x h0 hx

/-- An own block goes on under a new name, with more cells, in its own room. -/
theorem Inv.extend {base : Nat} {H : Hp} {ρ : Nat → Loc} {F : Nat → Nat → Prop} {w w' : World} (I : Inv base H ρ F w) {b : Nat} {cs : List AV} (hb : H.h b = some cs) {o n : Nat} {xs : List AV} {ys : List Value}
    (hw : Wrote w w' (ρ b).blk ((ρ b).off + (o + n)) ys) (hl : xs.length = ys.length) (ho : o + n ≤ cs.length) (hr : o + n + xs.length ≤ (ρ b).lim) (hone : ∀ x ∈ xs, okc x = true) (hv : ∀ (i : Nat) x y, xs[i]? = some x → ys[i]? = some y → VR H ρ F w x y) :
    Inv base ((H.del b).new ((cs.drop o).take n ++ xs)) (setρ ρ H.g ⟨(ρ b).blk, (ρ b).off + o, (ρ b).lim - o⟩) F w' ∧
    Step H ρ F w ((H.del b).new ((cs.drop o).take n ++ xs)) (setρ ρ H.g ⟨(ρ b).blk, (ρ b).off + o, (ρ b).lim - o⟩) F w' ∧ Below base w w' := by
  obtain ⟨hb1, hb2, hb3⟩ := I.blk b cs hb
  have hbg := I.lt b cs hb
  have hlen : ((cs.drop o).take n).length = n := by simp; omega
  have houtF : ∀ k i, F k i → ¬ (k = (ρ b).blk ∧ (ρ b).off + (o + n) ≤ i ∧ i < (ρ b).off + (o + n) + ys.length) := by
    rintro k i hF ⟨rfl, h1, h2⟩
    have := I.sep b cs hb (i - (ρ b).off) (by omega)
    rw [show (ρ b).off + (i - (ρ b).off) = i by omega] at this
    exact this hF
  have hρ : ∀ b', b' ≠ H.g → setρ ρ H.g ⟨(ρ b).blk, (ρ b).off + o, (ρ b).lim - o⟩ b' = ρ b' := fun b' h => by simp [setρ, h]
  have hρg : setρ ρ H.g ⟨(ρ b).blk, (ρ b).off + o, (ρ b).lim - o⟩ H.g = ⟨(ρ b).blk, (ρ b).off + o, (ρ b).lim - o⟩ := by simp [setρ]
  generalize hgen : setρ ρ H.g ⟨(ρ b).blk, (ρ b).off + o, (ρ b).lim - o⟩ = ρ' at *
  have st : Step H ρ F w ((H.del b).new ((cs.drop o).take n ++ xs)) ρ' F w' := by
    refine ⟨by simp, fun b' cs' hlt h => ?_, fun k i hF => ⟨hF, by rw [hw.cell, if_neg (houtF k i hF)]⟩⟩
    rw [Hp.new_h, if_neg (by simp; omega), Hp.del_h] at h
    split at h
    · simp at h
    · exact ⟨cs', h, rfl, hρ b' (by omega)⟩
  have hcase : ∀ b' c, ((H.del b).new ((cs.drop o).take n ++ xs)).h b' = some c → (b' = H.g ∧ c = (cs.drop o).take n ++ xs) ∨ (b' ≠ H.g ∧ b' ≠ b ∧ H.h b' = some c) := by
    intro b' c h
    rw [Hp.new_h] at h
    by_cases e : b' = (H.del b).g
    · rw [if_pos e] at h; exact .inl ⟨e, (Option.some.inj h).symm⟩
    · rw [if_neg e, Hp.del_h] at h
      by_cases e2 : b' = b
      · rw [if_pos e2] at h; simp at h
      · rw [if_neg e2] at h; exact .inr ⟨e, e2, h⟩
  refine ⟨⟨fun b' c h => ?_, fun b' c h => ?_, fun b' c h i hi => ?_, fun b' c i x h hx => ?_, fun b1 b2 c1 c2 hne h1 h2 i j hi hj => ?_, fun b' c h i hi => ?_, fun k i h => ?_, fun b' c x h hx => ?_, by rw [hw.size]; exact I.base, I.tab.below (hw.below hb1)⟩, st, hw.below hb1⟩
  · rcases hcase b' c h with ⟨rfl, rfl⟩ | ⟨h1, h2, h3⟩
    · simp
    · have := I.lt b' c h3; simp; omega
  · rcases hcase b' c h with ⟨rfl, rfl⟩ | ⟨h1, h2, h3⟩
    · rw [hρg, hw.size]; refine ⟨hb1, hb2, ?_⟩; simp only [List.length_append, hlen]; omega
    · rw [hρ b' h1, hw.size]; exact I.blk b' c h3
  · rcases hcase b' c h with ⟨rfl, rfl⟩ | ⟨h1, h2, h3⟩
    · rw [hρg] at hi ⊢
      simp only at hi ⊢
      obtain ⟨⟨x, hx⟩, hf⟩ := I.mem b cs hb (o + i) (by omega)
      rw [hw.frozen, hw.cell]
      rw [show (ρ b).off + o + i = (ρ b).off + (o + i) by omega]
      refine ⟨?_, hf⟩
      split
      · rename_i hin; exact ⟨ys[(ρ b).off + (o + i) - ((ρ b).off + (o + n))]'(by omega), by simp [show (ρ b).off + (o + i) - ((ρ b).off + (o + n)) < ys.length by omega]⟩
      · exact ⟨x, hx⟩
    · rw [hρ b' h1] at hi ⊢
      obtain ⟨⟨x, hx⟩, hf⟩ := I.mem b' c h3 i hi
      rw [hw.frozen, hw.cell]
      refine ⟨?_, hf⟩
      split
      · rename_i hin; exact ⟨ys[(ρ b').off + i - ((ρ b).off + (o + n))]'(by omega), by simp [show (ρ b').off + i - ((ρ b).off + (o + n)) < ys.length by omega]⟩
      · exact ⟨x, hx⟩
  · rcases hcase b' c h with ⟨rfl, rfl⟩ | ⟨h1, h2, h3⟩
    · rw [hρg]
      simp only
      rw [List.getElem?_append, hlen] at hx
      rw [hw.cell]
      split at hx
      · rename_i hin
        rw [List.getElem?_take_of_lt hin, List.getElem?_drop] at hx
        obtain ⟨y, hy, hr⟩ := I.val b cs (o + i) x hb hx
        exact ⟨y, by rw [if_neg (by omega), show (ρ b).off + o + i = (ρ b).off + (o + i) by omega]; exact hy, hr.mono st⟩
      · rename_i hin
        have hi3 : i - n < xs.length := by
          rcases Nat.lt_or_ge (i - n) xs.length with h | h
          · exact h
          · rw [List.getElem?_eq_none h] at hx; simp at hx
        have hi2 : i - n < ys.length := by omega
        refine ⟨ys[i - n], ?_, (hv (i - n) x _ hx (by simp [hi2])).mono st⟩
        rw [if_pos ⟨rfl, by omega, by omega⟩, show (ρ b).off + o + i - ((ρ b).off + (o + n)) = i - n by omega]; simp [hi2]
    · rw [hρ b' h1]
      obtain ⟨y, hy, hr⟩ := I.val b' c i x h3 hx
      refine ⟨y, ?_, hr.mono st⟩
      have hi : i < c.length := by
        rcases Nat.lt_or_ge i c.length with h | h
        · exact h
        · rw [List.getElem?_eq_none h] at hx; simp at hx
      obtain ⟨g1, g2, g3⟩ := I.blk b' c h3
      rw [hw.cell, if_neg]
      · exact hy
      · rintro ⟨e1, e2, e3⟩
        exact I.dis b' b c cs h2 h3 hb i ((ρ b').off + i - (ρ b).off) (by omega) (by omega) ⟨e1, by omega⟩
  · rcases hcase b1 c1 h1 with ⟨rfl, rfl⟩ | ⟨k1, k2, k3⟩ <;> rcases hcase b2 c2 h2 with ⟨rfl, rfl⟩ | ⟨m1, m2, m3⟩
    · exact absurd rfl hne
    · rw [hρg] at hi ⊢; rw [hρ b2 m1] at hj ⊢
      simp only at hi ⊢
      have := I.dis b b2 cs c2 (Ne.symm m2) hb m3 (o + i) j (by omega) hj
      rintro ⟨e1, e2⟩; exact this ⟨e1, by omega⟩
    · rw [hρg] at hj ⊢; rw [hρ b1 k1] at hi ⊢
      simp only at hj ⊢
      have := I.dis b1 b c1 cs k2 k3 hb i (o + j) hi (by omega)
      rintro ⟨e1, e2⟩; exact this ⟨e1, by omega⟩
    · rw [hρ b1 k1] at hi ⊢; rw [hρ b2 m1] at hj ⊢; exact I.dis b1 b2 c1 c2 hne k3 m3 i j hi hj
  · rcases hcase b' c h with ⟨rfl, rfl⟩ | ⟨h1, h2, h3⟩
    · rw [hρg] at hi ⊢
      simp only at hi ⊢
      rw [show (ρ b).off + o + i = (ρ b).off + (o + i) by omega]
      exact I.sep b cs hb (o + i) (by omega)
    · rw [hρ b' h1] at hi ⊢; exact I.sep b' c h3 i hi
  · rw [hw.size]; exact I.fin k i h
  · rcases hcase b' c h with ⟨rfl, rfl⟩ | ⟨h1, h2, h3⟩
    · rcases List.mem_append.1 hx with hx | hx
      · exact I.one b cs x hb (List.mem_of_mem_drop (List.mem_of_mem_take hx))
      · exact hone x hx
    · exact I.one b' c x h3 hx
end Go.Proofs.YtnejoidfbgklbaaGreatDoor.Eng
