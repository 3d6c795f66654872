/- The engine, part 21: numbers and lists in a reckoning. -/
import Derived.Test.YtlkoklhnodcipaaDoorE20
namespace Go.Proofs.YtlkoklhnodcipaaDoor.Eng
open Go
set_option linter.unusedSimpArgs false
set_option linter.unusedVariables false

theorem natOf_nat (k : IntKind) (n : Nat) : natOf (.v (.int k (n : Int))) = some n := by simp [natOf]
theorem natOf_zero (k : IntKind) : natOf (.v (.int k 0)) = some 0 := by simp [natOf]
theorem wrap_i64 {z : Int} (h1 : -9223372036854775808 ≤ z) (h2 : z ≤ 9223372036854775807) : IntKind.wrap .i64 z = z := by
  simp [IntKind.wrap, IntKind.bits, IntKind.signed]; omega
theorem wrap_u8 {z : Int} (h1 : 0 ≤ z) (h2 : z ≤ 255) : IntKind.wrap .u8 z = z := by
  simp [IntKind.wrap, IntKind.bits, IntKind.signed]; omega
theorem wrap_succ {n : Nat} (h : n < 9223372036854775807) : IntKind.wrap .i64 ((n : Int) + 1) = ((n + 1 : Nat) : Int) := by
  rw [wrap_i64 (by omega) (by omega)]; simp
theorem byteV {z : Int} (h : 0 ≤ z ∧ z ≤ 255) : IntKind.wrap .u8 z = z := wrap_u8 h.1 h.2

theorem natOf_one (k : IntKind) : natOf (.v (.int k 1)) = some 1 := by simp [natOf]
theorem natOf_c2 (k : IntKind) : natOf (.v (.int k 2)) = some 2 := by simp [natOf]
theorem natOf_c3 (k : IntKind) : natOf (.v (.int k 3)) = some 3 := by simp [natOf]
theorem natOf_c4 (k : IntKind) : natOf (.v (.int k 4)) = some 4 := by simp [natOf]
theorem natOf_c5 (k : IntKind) : natOf (.v (.int k 5)) = some 5 := by simp [natOf]
theorem natOf_c6 (k : IntKind) : natOf (.v (.int k 6)) = some 6 := by simp [natOf]
theorem natOf_c7 (k : IntKind) : natOf (.v (.int k 7)) = some 7 := by simp [natOf]
theorem natOf_c8 (k : IntKind) : natOf (.v (.int k 8)) = some 8 := by simp [natOf]
theorem natOf_c9 (k : IntKind) : natOf (.v (.int k 9)) = some 9 := by simp [natOf]
theorem natOf_c10 (k : IntKind) : natOf (.v (.int k 10)) = some 10 := by simp [natOf]
theorem natOf_c11 (k : IntKind) : natOf (.v (.int k 11)) = some 11 := by simp [natOf]
theorem natOf_c12 (k : IntKind) : natOf (.v (.int k 12)) = some 12 := by simp [natOf]
theorem natOf_c13 (k : IntKind) : natOf (.v (.int k 13)) = some 13 := by simp [natOf]
theorem natOf_c14 (k : IntKind) : natOf (.v (.int k 14)) = some 14 := by simp [natOf]
theorem natOf_c15 (k : IntKind) : natOf (.v (.int k 15)) = some 15 := by simp [natOf]
theorem natOf_c16 (k : IntKind) : natOf (.v (.int k 16)) = some 16 := by simp [natOf]
theorem natOf_c32 (k : IntKind) : natOf (.v (.int k 32)) = some 32 := by simp [natOf]
theorem natOf_c64 (k : IntKind) : natOf (.v (.int k 64)) = some 64 := by simp [natOf]
attribute [go_sem] natOf_nat natOf_zero natOf_one natOf_c2 natOf_c3 natOf_c4 natOf_c5 natOf_c6 natOf_c7 natOf_c8 natOf_c9 natOf_c10 natOf_c11 natOf_c12 natOf_c13 natOf_c14 natOf_c15 natOf_c16 natOf_c32 natOf_c64
theorem roomy_of {n b : Nat} (hn : n ≤ 70368744177664) (hb : n * b ≤ 70368744177664) : roomy n b = true := by simp [roomy, hn, hb]
theorem roomy_1 {n : Nat} (hn : n ≤ 70368744177664) : roomy n 1 = true := roomy_of hn (by omega)

/-- Stands for itself: of nothing but what is only read, in its one form. -/
def Fz (n : Nat) (x : AV) : Prop := (∀ H, deep H n x = some x) ∧ hasRefs n x = false
theorem mapM_self {f : AV → Option AV} : ∀ {l : List AV}, (∀ x ∈ l, f x = some x) → l.mapM f = some l := by
  intro l
  induction l with
  | nil => intro _; rfl
  | cons a l ih =>
    intro h
    simp only [List.mapM_cons, h a (by simp), ih fun x hx => h x (by simp [hx])]; rfl
theorem mapM_self2 {f : List AV → Option (List AV)} : ∀ {l : List (List AV)}, (∀ x ∈ l, f x = some x) → l.mapM f = some l := by
  intro l
  induction l with
  | nil => intro _; rfl
  | cons a l ih =>
    intro h
    simp only [List.mapM_cons, h a (by simp), ih fun x hx => h x (by simp [hx])]; rfl
theorem Fz.int (n : Nat) (k : IntKind) (z : Int) : Fz (n + 1) (.v (.int k z)) := ⟨fun _ => rfl, rfl⟩
theorem Fz.bool (n : Nat) (b : Bool) : Fz (n + 1) (.v (.bool b)) := ⟨fun _ => rfl, rfl⟩
theorem Fz.string (n : Nat) (b : ByteArray) : Fz (n + 1) (.v (.string b)) := ⟨fun _ => rfl, rfl⟩
theorem Fz.lst {n : Nat} {xs : List (List AV)} (h : ∀ c ∈ xs, ∀ x ∈ c, Fz n x) : Fz (n + 1) (.lst false xs) := by
  constructor
  · intro H
    simp only [deep]
    rw [mapM_self2 fun c hc => mapM_self fun x hx => (h c hc x hx).1 H]; rfl
  · simp only [hasRefs]
    rw [List.any_eq_false]; intro c hc
    simp only [Bool.not_eq_true]
    rw [List.any_eq_false]; intro x hx
    simp [(h c hc x hx).2]
theorem Fz.agg {n : Nat} {xs : List AV} (h : ∀ x ∈ xs, Fz n x) : Fz (n + 1) (.agg xs) := by
  constructor
  · intro H
    simp only [deep]
    rw [mapM_self fun x hx => (h x hx).1 H]; rfl
  · simp only [hasRefs]
    rw [List.any_eq_false]; intro x hx
    simp [(h x hx).2]
theorem chunk_flat (sz : Nat) : ∀ (xs : List (List AV)), (∀ x ∈ xs, x.length = sz) → chunk sz xs.length xs.flatten = xs := by
  intro xs
  induction xs with
  | nil => intro _; rfl
  | cons x xs ih =>
    intro h
    have hx := h x (by simp)
    simp only [List.length_cons, chunk, List.flatten_cons]
    rw [List.take_left' hx, List.drop_left' hx, ih fun y hy => h y (by simp [hy])]
theorem flat_len (sz : Nat) : ∀ (xs : List (List AV)), (∀ x ∈ xs, x.length = sz) → xs.flatten.length = xs.length * sz := by
  intro xs
  induction xs with
  | nil => intro _; simp
  | cons x xs ih =>
    intro h
    simp only [List.flatten_cons, List.length_append, List.length_cons, ih fun y hy => h y (by simp [hy]), h x (by simp), Nat.add_mul]
    omega
theorem deep_sl {n sz b k : Nat} {H : Hp} {xs : List (List AV)} (hb : H.h b = some xs.flatten) (hsz : 0 < sz) (hs : ∀ x ∈ xs, x.length = sz) (hk : k = xs.length) (hz : ∀ c ∈ xs, ∀ x ∈ c, deep H n x = some x) : deep H (n + 1) (.sl b sz 0 k) = some (.lst false xs) := by
  subst hk
  have hlen := flat_len sz xs hs
  simp only [deep, hb, Option.bind_some, Nat.zero_add, List.drop_zero]
  rw [if_pos ⟨by omega, hsz⟩, List.take_of_length_le (by omega), mapM_self fun x hx => by
    obtain ⟨c, hc, hx⟩ := List.mem_flatten.1 hx
    exact hz c hc x hx]
  simp only [Option.map_some, chunk_flat sz xs hs]

/-! Bytes. -/
def cell (z : Int) : AV := .v (.int .u8 z)
def bytesL (l : List Int) : AV := .lst false (l.map fun z => [cell z])
theorem asCells_cell (z : Int) : asCells (cell z) = some [cell z] := rfl
theorem okc_cell (z : Int) : okc (cell z) = true := rfl
attribute [go_sem] asCells_cell okc_cell
theorem lenD_bytes (e : TypeId) (l : List Int) : lenD (some (.slice e)) (bytesL l) = some (.v (.int .i64 l.length)) := by simp [lenD, bytesL]
attribute [go_sem] lenD_bytes
theorem bytesL_fz (n : Nat) (l : List Int) : Fz (n + 2) (bytesL l) := Fz.lst fun c hc x hx => by
  obtain ⟨z, -, rfl⟩ := List.mem_map.1 hc
  simp at hx; subst hx; exact Fz.int _ _ _
theorem cells_flat (l : List Int) : (l.map fun z => [cell z]).flatten = l.map cell := by
  induction l with
  | nil => rfl
  | cons a l ih => simp [ih]
theorem deep_bytes {H : Hp} {b k : Nat} {l : List Int} (hb : H.h b = some (l.map cell)) (hk : k = l.length) : deep H depthD (.sl b 1 0 k) = some (bytesL l) := by
  unfold bytesL depthD
  refine deep_sl (by rw [cells_flat]; exact hb) (by omega) (fun x hx => ?_) (by simpa using hk) (fun c hc x hx => ?_)
  · obtain ⟨z, -, rfl⟩ := List.mem_map.1 hx; rfl
  · obtain ⟨z, -, rfl⟩ := List.mem_map.1 hc
    simp at hx; subst hx; rfl
theorem clean_cells {H : Hp} {n : Nat} {l : List Int} : (l.map cell).all (clean H (n + 1)) = true := by
  rw [List.all_eq_true]; intro x hx
  obtain ⟨z, -, rfl⟩ := List.mem_map.1 hx; rfl
theorem clean_bytes {H : Hp} {b k : Nat} {l : List Int} (hb : H.h b = some (l.map cell)) : clean H depthD (.sl b 1 0 k) = true := by
  unfold depthD
  simp only [clean, hb, Option.getD_some, List.drop_zero]
  rw [List.all_eq_true]; intro x hx
  obtain ⟨z, -, rfl⟩ := List.mem_map.1 (List.mem_of_mem_take hx); rfl
theorem setAll_one (cs : List AV) (o : Nat) (x : AV) : setAll cs o [x] = cs.set o x := rfl

/-- Bytes that are being gathered. -/
def BAcc (H : Hp) (x : AV) (l : List Int) : Prop := (l = [] ∧ (x = .lst true [] ∨ x = .v (.slice none 0 0))) ∨ ∃ b, b < H.g ∧ x = .sl b 1 0 l.length ∧ H.h b = some (l.map cell)
theorem setAll_end : ∀ (ys cs : List AV), setAll cs cs.length ys = cs := by
  intro ys
  induction ys with
  | nil => intro cs; rfl
  | cons y ys ih =>
    intro cs
    have h : ∀ (ys cs : List AV) (o : Nat), cs.length ≤ o → setAll cs o ys = cs := by
      intro ys
      induction ys with
      | nil => intro cs o _; rfl
      | cons y ys ih => intro cs o ho; simp only [setAll]; rw [List.set_eq_of_length_le ho]; exact ih cs (o + 1) (by omega)
    exact h _ _ _ (Nat.le_refl _)
theorem app_bytes {P : Program} {t xt el : TypeId} (h1 : elemOf? P t = some el) (h2 : zeroOf P el = some [cell 0]) (h3 : bytesOf P el = some 1) (h4 : intT P xt = some false) {H : Hp} {x : AV} {l : List Int} (ha : BAcc H x l)
    {y : AV} {m : Nat} {ys : List Int} (hy1 : alen y = some m) (hy2 : afirst H 1 m y = some (ys.map cell)) (hm : m = ys.length) (hr : l.length + ys.length ≤ 70368744177664) :
    ∃ x' H', aappend P H [t, xt] x y = some (x', H') ∧ BAcc H' x' (l ++ ys) ∧ H.g ≤ H'.g ∧ ∀ b, b < H.g → (∀ n, x ≠ .sl b 1 0 n) → H'.h b = H.h b ∧ ∀ n, x' ≠ .sl b 1 0 n := by
  subst hm
  have happ : aappended P H el [cell 0] xt y = some (ys.length, ys.map cell) := by
    simp only [aappended, h4, Option.bind_some, Bool.false_eq_true, if_false, hy1, List.length_cons, List.length_nil, Nat.zero_add, hy2, Option.map_some]
  simp only [aappend, h1, h2, h3, Option.bind_some, happ]
  by_cases hz : ys.length = 0
  · rw [if_pos hz]
    have : ys = [] := List.length_eq_zero_iff.1 hz
    subst this
    rcases ha with ⟨rfl, rfl | rfl⟩ | ⟨b, hb, rfl, hh⟩
    · exact ⟨_, _, rfl, .inl ⟨rfl, .inl rfl⟩, Nat.le_refl _, fun _ _ h => ⟨rfl, h⟩⟩
    · exact ⟨_, _, rfl, .inl ⟨rfl, .inr rfl⟩, Nat.le_refl _, fun _ _ h => ⟨rfl, h⟩⟩
    · refine ⟨_, _, if_pos ⟨by omega, by simp [hh]⟩, .inr ⟨b, hb, by simp, by simpa using hh⟩, Nat.le_refl _, fun _ _ h => ⟨rfl, h⟩⟩
  · rw [if_neg hz]
    simp only [List.length_cons, List.length_nil, Nat.zero_add]
    rw [if_neg (by omega)]
    have hro : roomy ys.length 1 = true := roomy_1 (by omega)
    have hro2 : roomy (l.length + ys.length) 1 = true := roomy_1 (by omega)
    rcases ha with ⟨rfl, rfl | rfl⟩ | ⟨b, hb, rfl, hh⟩
    · refine ⟨_, _, if_pos ⟨by simp, by simpa using hro⟩, .inr ⟨H.g, by simp, by simp, by simp [Hp.new_h]⟩, by simp, fun b hb _ => ?_⟩
      exact ⟨by simp [Hp.new_h, Nat.ne_of_lt hb], fun n h => by simp at h; omega⟩
    · refine ⟨_, _, if_pos hro, .inr ⟨H.g, by simp, by simp, by simp [Hp.new_h]⟩, by simp, fun b hb _ => ?_⟩
      exact ⟨by simp [Hp.new_h, Nat.ne_of_lt hb], fun n h => by simp at h; omega⟩
    · dsimp only
      rw [if_pos ⟨rfl, hro2⟩, hh]
      simp only [Option.bind_some, Nat.mul_one, Nat.zero_add, List.length_map]
      rw [if_pos (Nat.le_refl _), if_neg (by omega)]
      refine ⟨_, _, rfl, .inr ⟨H.g, by simp, by simp, ?_⟩, by simp, fun b' hb' hne => ?_⟩
      · simp [Hp.new_h]
        rw [← List.map_take]; simp
      · have : b' ≠ b := fun e => hne l.length (by rw [e])
        exact ⟨by simp [Hp.new_h, Hp.del_h, Nat.ne_of_lt hb', this], fun n h => by simp at h; omega⟩

def strOf (l : List Int) : ByteArray := ⟨(l.map fun z => UInt8.ofNat z.toNat).toArray⟩
theorem bytesIn_cells (l : List Int) : bytesIn (l.map cell) = some (l.map fun z => UInt8.ofNat z.toNat) := by
  induction l with
  | nil => rfl
  | cons a l ih => simp only [List.map_cons, cell, bytesIn] at ih ⊢; rw [ih]; rfl
theorem conv_bytes {P : Program} {t st el : TypeId} (h1 : P.underlying t = some (.slice el)) (h2 : P.underlying st = some .string) (h3 : P.underlying el = some (.int .u8)) {H : Hp} {x : AV} {l : List Int} (ha : BAcc H x l) :
    aconv P H t st x = some (.v (.string (strOf l))) := by
  rcases ha with ⟨rfl, rfl | rfl⟩ | ⟨b, hb, rfl, hh⟩
  · simp only [aconv, h1, h2, h3]; rfl
  · simp only [aconv, h1, h2, h3]; rfl
  · simp only [aconv, h1, h2, h3, hh, Option.bind_some, Nat.zero_add, List.length_map, Nat.le_refl, if_true, List.drop_zero]
    rw [List.take_of_length_le (by simp), bytesIn_cells]; rfl
theorem conv_lst {P : Program} {t st el : TypeId} (h1 : P.underlying t = some (.slice el)) (h2 : P.underlying st = some .string) (h3 : P.underlying el = some (.int .u8)) (H : Hp) (l : List Int) : aconv P H t st (bytesL l) = some (.v (.string (strOf l))) := by
  simp only [aconv, h1, h2, h3, bytesL]
  rw [if_pos (by simp), cells_flat, bytesIn_cells]; rfl
end Go.Proofs.YtlkoklhnodcipaaDoor.Eng
