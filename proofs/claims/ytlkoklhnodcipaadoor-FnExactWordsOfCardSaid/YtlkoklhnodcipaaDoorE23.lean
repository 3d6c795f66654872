/- The engine, part 23: sizes of arguments; whole numbers in lists; parts of structs. -/
import Derived.Test.YtlkoklhnodcipaaDoorE22
namespace Go.Proofs.YtlkoklhnodcipaaDoor.Eng
open Go Go.RowKit
set_option linter.unusedSimpArgs false
set_option linter.unusedVariables false

/-- No list or text in it is longer than N. -/
def leN (N : Nat) : Nat → AV → Prop
  | 0, _ => True
  | d + 1, x => match x with
    | .lst _ xs => xs.length ≤ N ∧ ∀ c ∈ xs, ∀ x ∈ c, leN N d x
    | .agg cs => ∀ x ∈ cs, leN N d x
    | .v (.string s) => s.size ≤ N
    | _ => True
def upTo (N : Nat) (n _b : Nat) : Prop := n ≤ N

section
variable {P : Program} {B : Nat → Nat → Prop}
theorem shC_small {N : Nat} : ∀ (n m : Nat) (t : TypeId) (xs : List AV), n ≤ m → ShC P B n t xs → (∀ x ∈ xs, leN N m x) → ShC P (upTo N) n t xs := by
  intro n
  induction n with
  | zero => intro m t xs _ h; simp [ShC] at h
  | succ n ih =>
    intro m t xs hm h hl
    obtain ⟨m, rfl⟩ : ∃ k, m = k + 1 := ⟨m - 1, by omega⟩
    unfold ShC at h ⊢
    cases hu : P.underlying t with
    | none => rw [hu] at h; exact h.elim
    | some D =>
      rw [hu] at h
      cases D <;> first | exact h.elim | exact h | skip
      case string =>
        obtain ⟨s, rfl, hs⟩ := h
        have hs2 : leN N (m + 1) (.v (.string s)) := hl _ (by simp)
        exact ⟨s, rfl, hs2⟩
      case slice e =>
        obtain ⟨ys, rfl, hb, hc⟩ := h
        have := hl _ (List.mem_singleton_self _)
        exact ⟨ys, rfl, this.1, fun c hc' => ih m e c (by omega) (hc c hc') (this.2 c hc')⟩
      case struct fs =>
        have key : ∀ (ts : List TypeId) (xs : List AV), (∀ x ∈ xs, leN N (m + 1) x) → PartsT (ShC P B n) ts xs → PartsT (ShC P (upTo N) n) ts xs := by
          intro ts
          induction ts with
          | nil => intro xs _ h; exact h
          | cons t ts iht =>
            intro xs hl h
            obtain ⟨a, b, rfl, h1, h2⟩ := h
            exact ⟨a, b, rfl, ih (m + 1) t a (by omega) h1 (fun x hx => hl x (by simp [hx])), iht b (fun x hx => hl x (by simp [hx])) h2⟩
        exact key _ _ hl h
theorem partsT_one {S : TypeId → List AV → Prop} {t : TypeId} {ts : List TypeId} {xs : List AV} : PartsT S (t :: ts) xs ↔ ∃ a b, xs = a ++ b ∧ S t a ∧ PartsT S ts b := Iff.rfl
theorem partsT_nil {S : TypeId → List AV → Prop} {xs : List AV} : PartsT S [] xs ↔ xs = [] := Iff.rfl
end

theorem leN_down {N : Nat} : ∀ (d : Nat) (x : AV), leN N (d + 1) x → leN N d x := by
  intro d
  induction d with
  | zero => intro x _; trivial
  | succ d ih =>
    intro x h
    cases x <;> try trivial
    case v y => cases y <;> first | trivial | exact h
    case lst => exact ⟨h.1, fun c hc x hx => ih x (h.2 c hc x hx)⟩
    case agg => exact fun x hx => ih x (h x hx)
theorem mapM_up {n : Nat} {H : Hp} (ih : ∀ x y, deep H n x = some y → deep H (n + 1) x = some y) : ∀ (l r : List AV), l.mapM (deep H n) = some r → l.mapM (deep H (n + 1)) = some r := by
  intro l
  induction l with
  | nil => intro r h; simpa using h
  | cons a l ihl =>
    intro r h
    simp only [List.mapM_cons, Option.bind_eq_bind, Option.bind_eq_some_iff, Option.pure_def, Option.some.injEq] at h ⊢
    obtain ⟨b, hb, bs, hbs, rfl⟩ := h
    exact ⟨b, ih _ _ hb, bs, ihl _ hbs, rfl⟩

/-! Whole numbers in lists. -/
def icell (z : Int) : AV := .v (.int .i64 z)
def i64L (l : List Int) : AV := .lst false (l.map fun z => [icell z])
def I64s (l : List Int) : Prop := ∀ z ∈ l, -9223372036854775808 ≤ z ∧ z ≤ 9223372036854775807
theorem lenD_i64s (e : TypeId) (l : List Int) : lenD (some (.slice e)) (i64L l) = some (.v (.int .i64 l.length)) := by simp [lenD, i64L]
theorem asCells_icell (z : Int) : asCells (icell z) = some [icell z] := rfl
theorem okc_icell (z : Int) : okc (icell z) = true := rfl
theorem asCells_bytes (l : List Int) : asCells (bytesL l) = some [bytesL l] := rfl
theorem okc_bytes (l : List Int) : okc (bytesL l) = true := rfl
theorem asCells_i64s (l : List Int) : asCells (i64L l) = some [i64L l] := rfl
theorem okc_i64s (l : List Int) : okc (i64L l) = true := rfl
attribute [go_sem] lenD_i64s asCells_icell okc_icell asCells_bytes okc_bytes asCells_i64s okc_i64s
theorem i64L_fz (n : Nat) (l : List Int) : Fz (n + 2) (i64L l) := Fz.lst fun c hc x hx => by
  obtain ⟨z, -, rfl⟩ := List.mem_map.1 hc
  simp at hx; subst hx; exact Fz.int _ _ _
theorem icells_flat (l : List Int) : (l.map fun z => [icell z]).flatten = l.map icell := by
  induction l with
  | nil => rfl
  | cons a l ih => simp [ih]
theorem deep_i64s {H : Hp} {b k : Nat} {l : List Int} (hb : H.h b = some (l.map icell)) (hk : k = l.length) : deep H depthD (.sl b 1 0 k) = some (i64L l) := by
  unfold i64L depthD
  refine deep_sl (by rw [icells_flat]; exact hb) (by omega) (fun x hx => ?_) (by simpa using hk) (fun c hc x hx => ?_)
  · obtain ⟨z, -, rfl⟩ := List.mem_map.1 hx; rfl
  · obtain ⟨z, -, rfl⟩ := List.mem_map.1 hc
    simp at hx; subst hx; rfl
theorem clean_i64s {H : Hp} {b k : Nat} {l : List Int} (hb : H.h b = some (l.map icell)) : clean H depthD (.sl b 1 0 k) = true := by
  unfold depthD
  simp only [clean, hb, Option.getD_some, List.drop_zero]
  rw [List.all_eq_true]; intro x hx
  obtain ⟨z, -, rfl⟩ := List.mem_map.1 (List.mem_of_mem_take hx); rfl
theorem leN_bytes {N d : Nat} {l : List Int} (h : l.length ≤ N) : leN N d (bytesL l) := by
  cases d with
  | zero => trivial
  | succ d =>
    refine ⟨by simpa [bytesL] using h, fun c hc x hx => ?_⟩
    obtain ⟨z, -, rfl⟩ := List.mem_map.1 hc
    simp at hx; subst hx; cases d <;> trivial
theorem leN_i64s {N d : Nat} {l : List Int} (h : l.length ≤ N) : leN N d (i64L l) := by
  cases d with
  | zero => trivial
  | succ d =>
    refine ⟨by simpa [i64L] using h, fun c hc x hx => ?_⟩
    obtain ⟨z, -, rfl⟩ := List.mem_map.1 hc
    simp at hx; subst hx; cases d <;> trivial
theorem leN_rows {N : Nat} {xs : List (List AV)} (h : xs.length ≤ N) (hc : ∀ c ∈ xs, ∀ x ∈ c, leN N 12 x) : leN N 12 (.lst false xs) := by
  refine ⟨h, fun c h' x hx => leN_down 11 x (hc c h' x hx)⟩
theorem leN_int {N d : Nat} {k : IntKind} {z : Int} : leN N d (.v (.int k z)) := by cases d <;> trivial
theorem leN_bool {N d : Nat} {b : Bool} : leN N d (.v (.bool b)) := by cases d <;> trivial

def Bytes (l : List Int) : Prop := ∀ z ∈ l, 0 ≤ z ∧ z ≤ 255
theorem choose_ints {P : Program} {B : Nat → Nat → Prop} {k : IntKind} {n : Nat} {t : TypeId} (hu : P.underlying t = some (.int k)) : ∀ (ys : List (List AV)), (∀ c ∈ ys, ShC P B n t c) → ∃ l : List Int, ys = l.map (fun z => [AV.v (.int k z)]) ∧ ∀ z ∈ l, k.min ≤ z ∧ z ≤ k.max := by
  intro ys
  induction ys with
  | nil => intro _; exact ⟨[], rfl, fun z h => by simp at h⟩
  | cons c ys ih =>
    intro h
    have hc := h c (by simp)
    cases n with
    | zero => simp [ShC] at hc
    | succ n =>
      obtain ⟨z, rfl, hz⟩ := (shC_int hu).1 hc
      obtain ⟨l, rfl, hl⟩ := ih fun c hc => h c (by simp [hc])
      refine ⟨z :: l, rfl, fun y hy => ?_⟩
      rcases List.mem_cons.1 hy with rfl | hy
      · exact hz
      · exact hl y hy
theorem shC_bytes {P : Program} {B : Nat → Nat → Prop} {n : Nat} {t e : TypeId} {xs : List AV} (hu : P.underlying t = some (.slice e)) (he : P.underlying e = some (.int .u8)) (hb : P.bytesOf e = 1) (h : ShC P B n t xs) : ∃ l, xs = [bytesL l] ∧ Bytes l ∧ B l.length 1 := by
  cases n with
  | zero => simp [ShC] at h
  | succ n =>
    obtain ⟨ys, rfl, h1, h2⟩ := (shC_slice hu).1 h
    obtain ⟨l, rfl, h3⟩ := choose_ints he ys h2
    exact ⟨l, rfl, h3, by simpa [hb] using h1⟩
theorem shC_i64s {P : Program} {B : Nat → Nat → Prop} {n : Nat} {t e : TypeId} {xs : List AV} (hu : P.underlying t = some (.slice e)) (he : P.underlying e = some (.int .i64)) (hb : P.bytesOf e = 8) (h : ShC P B n t xs) : ∃ l, xs = [i64L l] ∧ I64s l ∧ B l.length 8 := by
  cases n with
  | zero => simp [ShC] at h
  | succ n =>
    obtain ⟨ys, rfl, h1, h2⟩ := (shC_slice hu).1 h
    obtain ⟨l, rfl, h3⟩ := choose_ints he ys h2
    exact ⟨l, rfl, h3, by simpa [hb] using h1⟩
theorem shC_i64 {P : Program} {B : Nat → Nat → Prop} {n : Nat} {t : TypeId} {k : IntKind} {xs : List AV} (hu : P.underlying t = some (.int k)) (h : ShC P B n t xs) : ∃ z, xs = [.v (.int k z)] ∧ k.min ≤ z ∧ z ≤ k.max := by
  cases n with
  | zero => simp [ShC] at h
  | succ n => exact (shC_int hu).1 h
theorem shC_parts {P : Program} {B : Nat → Nat → Prop} {n : Nat} {t : TypeId} {ts : List TypeId} {xs : List AV} (hu : fieldTs P t = some ts) (h : ShC P B n t xs) : ∃ m, m + 1 = n ∧ PartsT (ShC P B m) ts xs := by
  cases n with
  | zero => simp [ShC] at h
  | succ n => exact ⟨n, rfl, (shC_struct hu).1 h⟩
theorem shC_rows {P : Program} {B : Nat → Nat → Prop} {n : Nat} {t e : TypeId} {xs : List AV} (hu : P.underlying t = some (.slice e)) (h : ShC P B n t xs) : ∃ ys, xs = [.lst false ys] ∧ B ys.length (P.bytesOf e) ∧ ∃ m, m + 1 = n ∧ ∀ c ∈ ys, ShC P B m e c := by
  cases n with
  | zero => simp [ShC] at h
  | succ n => obtain ⟨ys, h1, h2, h3⟩ := (shC_slice hu).1 h; exact ⟨ys, h1, h2, n, rfl, h3⟩

theorem setAll_mid : ∀ (c a z b : List AV), c.length = z.length → setAll (a ++ (z ++ b)) a.length c = a ++ (c ++ b) := by
  intro c
  induction c with
  | nil => intro a z b h; have hz := List.length_eq_zero_iff.1 h.symm; subst hz; rfl
  | cons x c ih =>
    intro a z b h
    cases z with
    | nil => simp at h
    | cons y z =>
      simp only [setAll]
      have h1 : (a ++ (y :: z ++ b)).set a.length x = (a ++ [x]) ++ (z ++ b) := by
        rw [List.set_append_right _ _ (Nat.le_refl _)]; simp
      have h2 : a.length + 1 = (a ++ [x]).length := by simp
      rw [h1, h2, ih (a ++ [x]) z b (by simpa using h)]; simp
theorem zeros_succ (n : Nat) (z : List AV) : zeros (n + 1) z = z ++ zeros n z := by simp [zeros, List.replicate_succ]
theorem take_flat_len {sz : Nat} {ys : List (List AV)} (h : ∀ c ∈ ys, c.length = sz) {j : Nat} (hj : j ≤ ys.length) : ((ys.take j).flatten).length = j * sz := by
  rw [flat_len sz _ fun c hc => h c (List.mem_of_mem_take hc)]; simp [Nat.min_eq_left hj]
theorem fill_rows {sz : Nat} {ys : List (List AV)} {z : List AV} (h : ∀ c ∈ ys, c.length = sz) (hz : z.length = sz) {j : Nat} {c : List AV} (hg : ys[j]? = some c) :
    setAll ((ys.take j).flatten ++ zeros (ys.length - j) z) (j * sz) c = (ys.take (j + 1)).flatten ++ zeros (ys.length - (j + 1)) z := by
  have hj := lt_of_get hg
  have hc : ys[j] = c := by rw [List.getElem?_eq_getElem hj] at hg; simpa using hg
  obtain ⟨d, hd⟩ : ∃ d, ys.length - j = d + 1 := ⟨ys.length - j - 1, by omega⟩
  rw [hd, zeros_succ, show ys.length - (j + 1) = d by omega, ← take_flat_len h (Nat.le_of_lt hj), setAll_mid c _ z _ (by rw [hz, ← hc]; exact h _ (List.getElem_mem hj))]
  rw [List.take_succ_eq_append_getElem hj, List.flatten_append, hc]; simp
theorem rows_len {sz : Nat} {ys : List (List AV)} {z : List AV} (h : ∀ c ∈ ys, c.length = sz) (hz : z.length = sz) {j : Nat} (hj : j ≤ ys.length) : ((ys.take j).flatten ++ zeros (ys.length - j) z).length = ys.length * sz := by
  rw [List.length_append, take_flat_len h hj, zeros_length, hz, ← Nat.add_mul]; congr 1; omega
theorem get_icell {l : List Int} {j : Nat} (h : j < l.length) : (l.map fun z => [icell z])[j]? = some [icell l[j]] := by simp [h]
theorem get_i64 {l : List Int} {j : Nat} (h : j < l.length) : (l.map fun z => [AV.v (.int .i64 z)])[j]? = some [.v (.int .i64 l[j])] := by simp [h]
theorem zeros_icell (n : Nat) : zeros n [icell 0] = (List.replicate n 0).map icell := by
  unfold zeros
  induction n with
  | zero => rfl
  | succ n ih => simp [List.replicate_succ, ih]
theorem map_set_icell (l : List Int) (j : Nat) (z : Int) : (l.map icell).set j (icell z) = (l.set j z).map icell := by rw [List.map_set]
end Go.Proofs.YtlkoklhnodcipaaDoor.Eng
