/- The engine, part 24: contracts of functions on values that are only read; closers; loops along lists. -/
import Derived.Test.YtlkoklhnodcipaaDoorE23
namespace Go.Proofs.YtlkoklhnodcipaaDoor.Eng
open Go Go.RowKit
set_option linter.unusedSimpArgs false
set_option linter.unusedVariables false

section
variable {P : Program} {cfg : Cfg}
theorem any_refs {as : List AV} {n : Nat} (h : ∀ x ∈ as, Fz n x) : as.any (hasRefs n) = false := by
  rw [List.any_eq_false]; intro x hx; simp [(h x hx).2]
theorem call_fz {f : Nat} {fn : Func} (hf : P.funcs[f]? = some fn) (hq : cfg.prim f = none) (ho : fnOk P cfg f fn = true) (hr : cfg.raw f = false) {as : List AV} {v : AV} {cl : Bool} (hz : ∀ x ∈ as, Fz depthD x)
    (h : pure P cfg f fn as = some (v, cl)) (H : Hp) : call P cfg 0 f as H = some (v, H) :=
  call_of hf hq ho hr (by omega) (mapM_self fun x hx => (hz x hx).1 H) h (.inr (any_refs hz))
end
theorem fz_cons {n : Nat} {a : AV} {l : List AV} : (∀ x ∈ a :: l, Fz n x) ↔ Fz n a ∧ ∀ x ∈ l, Fz n x := by simp
theorem fz_nil {n : Nat} : (∀ x ∈ ([] : List AV), Fz n x) ↔ True := by simp
theorem fz_app {n : Nat} {a b : List AV} (h : ∀ x ∈ a, Fz n x) (h' : ∀ x ∈ b, Fz n x) : ∀ x ∈ a ++ b, Fz n x := by
  intro x hx; rcases List.mem_append.1 hx with hx | hx
  · exact h x hx
  · exact h' x hx
theorem fz_int (k : IntKind) (z : Int) : Fz depthD (.v (.int k z)) := Fz.int _ _ _
theorem fz_bool (b : Bool) : Fz depthD (.v (.bool b)) := Fz.bool _ _
theorem fz_string (b : ByteArray) : Fz depthD (.v (.string b)) := Fz.string _ _
theorem fz_bytes (l : List Int) : Fz depthD (bytesL l) := bytesL_fz 10 l
theorem fz_i64s (l : List Int) : Fz depthD (i64L l) := i64L_fz 10 l
def textsL (l : List ByteArray) : AV := .lst false (l.map fun s => [.v (.string s)])
theorem textsL_fz (n : Nat) (l : List ByteArray) : Fz (n + 2) (textsL l) := Fz.lst fun c hc x hx => by
  obtain ⟨z, -, rfl⟩ := List.mem_map.1 hc
  simp at hx; subst hx; exact Fz.string _ _
theorem fz_texts (l : List ByteArray) : Fz depthD (textsL l) := textsL_fz 10 l
theorem fz_fn (f : Nat) : Fz depthD (.fn f []) := ⟨fun _ => rfl, rfl⟩
theorem lenD_texts (e : TypeId) (l : List ByteArray) : lenD (some (.slice e)) (textsL l) = some (.v (.int .i64 l.length)) := by simp [lenD, textsL]
theorem asCells_texts (l : List ByteArray) : asCells (textsL l) = some [textsL l] := rfl
theorem okc_texts (l : List ByteArray) : okc (textsL l) = true := rfl
attribute [go_sem] lenD_texts asCells_texts okc_texts

attribute [go_sem] fz_int fz_bool fz_string fz_bytes fz_i64s fz_texts fz_fn Nat.add_zero Nat.zero_add Nat.mul_one decide_true decide_false aresults aresult
theorem gives_bool {b : Bool} {x : AV} {H : Hp} (h : x = .v (.bool b)) : Gives (.v (.bool b)) true x H := by subst h; exact ⟨rfl, rfl⟩
theorem gives_int {k : IntKind} {z : Int} {x : AV} {H : Hp} (h : x = .v (.int k z)) : Gives (.v (.int k z)) true x H := by subst h; exact ⟨rfl, rfl⟩
theorem gives_intv {k : IntKind} {z z' : Int} {H : Hp} (h : z' = z) : Gives (.v (.int k z)) true (.v (.int k z')) H := by subst h; exact ⟨rfl, rfl⟩
theorem gives_boolv {b b' : Bool} {H : Hp} (h : b' = b) : Gives (.v (.bool b)) true (.v (.bool b')) H := by subst h; exact ⟨rfl, rfl⟩
theorem bool_eq {a b : Bool} (h : a = true ↔ b = true) : a = b := by cases a <;> cases b <;> simp_all

theorem at_drop {α : Type} {l : List α} {j : Nat} (h : j < l.length) : ∃ x, l[j]? = some x ∧ l.drop j = x :: l.drop (j + 1) ∧ x ∈ l :=
  ⟨l[j], by simp [h], List.drop_eq_getElem_cons h, List.getElem_mem h⟩
theorem map_at {α β : Type} {l : List α} {f : α → β} {j : Nat} {x : α} (h : l[j]? = some x) : (l.map f)[j]? = some (f x) := by rw [List.getElem?_map, h]; rfl
theorem at_take {α : Type} {l : List α} {j : Nat} {x : α} (h : l[j]? = some x) : l.take (j + 1) = l.take j ++ [x] := by
  have hj := lt_of_get h
  rw [List.take_succ_eq_append_getElem hj]
  rw [List.getElem?_eq_getElem hj] at h
  simp only [Option.some.injEq] at h; rw [h]
theorem shC_boolE {P : Program} {B : Nat → Nat → Prop} {n : Nat} {t : TypeId} {xs : List AV} (hu : P.underlying t = some .bool) (h : ShC P B n t xs) : ∃ b, xs = [.v (.bool b)] := by
  cases n with
  | zero => simp [ShC] at h
  | succ n => unfold ShC at h; rw [hu] at h; exact h
theorem shC_textE {P : Program} {B : Nat → Nat → Prop} {n : Nat} {t : TypeId} {xs : List AV} (hu : P.underlying t = some .string) (h : ShC P B n t xs) : ∃ s : ByteArray, xs = [.v (.string s)] ∧ B s.size 1 := by
  cases n with
  | zero => simp [ShC] at h
  | succ n => unfold ShC at h; rw [hu] at h; exact h
theorem choose_texts {P : Program} {N n : Nat} {t : TypeId} (hu : P.underlying t = some .string) : ∀ (ys : List (List AV)), (∀ c ∈ ys, ShC P (upTo N) n t c) → ∃ l : List ByteArray, ys = l.map (fun z => [AV.v (.string z)]) ∧ ∀ z ∈ l, z.size ≤ N := by
  intro ys
  induction ys with
  | nil => intro _; exact ⟨[], rfl, fun z h => by simp at h⟩
  | cons c ys ih =>
    intro h
    obtain ⟨z, rfl, hz⟩ := shC_textE hu (h c (by simp))
    obtain ⟨l, rfl, hl⟩ := ih fun c hc => h c (by simp [hc])
    refine ⟨z :: l, rfl, fun y hy => ?_⟩
    rcases List.mem_cons.1 hy with rfl | hy
    · exact hz
    · exact hl y hy
theorem shC_texts {P : Program} {N n : Nat} {t e : TypeId} {xs : List AV} (hu : P.underlying t = some (.slice e)) (he : P.underlying e = some .string) (h : ShC P (upTo N) n t xs) : ∃ l, xs = [textsL l] ∧ l.length ≤ N ∧ ∀ z ∈ l, z.size ≤ N := by
  cases n with
  | zero => simp [ShC] at h
  | succ n =>
    obtain ⟨ys, rfl, h1, h2⟩ := (shC_slice hu).1 h
    obtain ⟨l, rfl, h3⟩ := choose_texts he ys h2
    exact ⟨l, rfl, by simpa [upTo] using h1, h3⟩
def inB (a lo hi : Int) : Bool := decide (lo ≤ a) && decide (a ≤ hi)
theorem inB_t {a lo hi : Int} : inB a lo hi = true ↔ lo ≤ a ∧ a ≤ hi := by simp [inB]
theorem inB_f {a lo hi : Int} : inB a lo hi = false ↔ ¬ (lo ≤ a ∧ a ≤ hi) := by rw [← inB_t]; simp
theorem g_ne1 (n : Nat) : (n = n + 1) = False := by simp
theorem g_ne2 (n : Nat) : (n + 1 = n) = False := by simp
theorem g_ne3 (n : Nat) : (n = n + 1 + 1) = False := by simp; omega
theorem g_ne4 (n : Nat) : (n + 1 + 1 = n) = False := by simp; omega
theorem g_ne5 (n : Nat) : (0 = n + 1) = False := by simp
attribute [go_sem] g_ne1 g_ne2 g_ne3 g_ne4 g_ne5
/-- Rows as a list of what stands for them. -/
theorem mir_rows {α : Type} {Q : α → Prop} {enc : α → List AV} {S : List AV → Prop} (h : ∀ c, S c → ∃ k, c = enc k ∧ Q k) : ∀ ys : List (List AV), (∀ c ∈ ys, S c) → ∃ l : List α, ys = l.map enc ∧ ∀ k ∈ l, Q k := by
  intro ys
  induction ys with
  | nil => intro _; exact ⟨[], rfl, fun k hk => by simp at hk⟩
  | cons c ys ih =>
    intro hc
    obtain ⟨k, rfl, hk⟩ := h c (hc c (by simp))
    obtain ⟨l, rfl, hl⟩ := ih fun c h' => hc c (by simp [h'])
    refine ⟨k :: l, rfl, fun y hy => ?_⟩
    rcases List.mem_cons.1 hy with rfl | hy
    · exact hk
    · exact hl y hy
theorem fz_rows {α : Type} {enc : α → List AV} {n : Nat} (h : ∀ k, ∀ x ∈ enc k, Fz n x) (l : List α) : Fz (n + 1) (.lst false (l.map enc)) := Fz.lst fun c hc x hx => by
  obtain ⟨k, -, rfl⟩ := List.mem_map.1 hc
  exact h k x hx
/-- Normal forms of what branches tell, all in one. -/
theorem bbs : (∀ b : Bool, ((!b) = true) = (b = false)) ∧ (∀ b : Bool, ((!b) = false) = (b = true)) ∧ (∀ a b : Bool, ((a && b) = true) = (a = true ∧ b = true)) ∧ (∀ a b : Bool, ((a && b) = false) = (a = false ∨ b = false)) ∧ (∀ a b : Bool, ((a || b) = true) = (a = true ∨ b = true)) ∧ (∀ a b : Bool, ((a || b) = false) = (a = false ∧ b = false)) ∧ (∀ (p : Prop) [Decidable p], (decide p = true) = p) ∧ (∀ (p : Prop) [Decidable p], (decide p = false) = ¬ p) ∧ (!true) = false ∧ (!false) = true ∧ (true = false) = False ∧ (false = true) = False ∧ (∀ p : Prop, (¬ ¬ p) = p) ∧ (∀ a b c : Int, (inB a b c = true) = (b ≤ a ∧ a ≤ c)) ∧ (∀ a b c : Int, (inB a b c = false) = ¬ (b ≤ a ∧ a ≤ c)) :=
  ⟨fun b => by cases b <;> simp, fun b => by cases b <;> simp, fun a b => by cases a <;> cases b <;> simp, fun a b => by cases a <;> cases b <;> simp, fun a b => by cases a <;> cases b <;> simp, fun a b => by cases a <;> cases b <;> simp, fun p _ => by simp, fun p _ => by simp, rfl, rfl, by simp, by simp, fun p => by simp, fun a b c => propext inB_t, fun a b c => propext inB_f⟩
end Go.Proofs.YtlkoklhnodcipaaDoor.Eng
