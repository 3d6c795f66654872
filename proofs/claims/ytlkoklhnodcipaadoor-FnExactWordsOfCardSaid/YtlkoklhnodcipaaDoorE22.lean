/- The engine, part 22: arguments in their one form, and their weight. -/
import Derived.Test.YtlkoklhnodcipaaDoorE21
namespace Go.Proofs.YtlkoklhnodcipaaDoor.Eng
open Go Go.RowKit
set_option linter.unusedSimpArgs false
set_option linter.unusedVariables false

section
variable (P : Program)
def fieldTs (t : TypeId) : Option (List TypeId) := match P.underlying t with
  | some (.struct fs) => some (fs.toList.map (·.type))
  | _ => none
def PartsT (S : TypeId → List AV → Prop) : List TypeId → List AV → Prop
  | [], xs => xs = []
  | t :: ts, xs => ∃ a b, xs = a ++ b ∧ S t a ∧ PartsT S ts b
/-- The cells of a value of a type, in their one form: no slice is told to be nil. -/
def ShC (B : Nat → Nat → Prop) : Nat → TypeId → List AV → Prop
  | 0, _, _ => False
  | n + 1, t, xs => match P.underlying t with
    | some .bool => ∃ b, xs = [.v (.bool b)]
    | some (.int k) => ∃ z, xs = [.v (.int k z)] ∧ (Lit.int k z).wf = true
    | some .string => ∃ s : ByteArray, xs = [.v (.string s)] ∧ B s.size 1
    | some (.slice e) => ∃ ys, xs = [.lst false ys] ∧ B ys.length (P.bytesOf e) ∧ ∀ c ∈ ys, ShC B n e c
    | some (.struct fs) => PartsT (ShC B n) (fs.toList.map (·.type)) xs
    | _ => False
def ArgC (B : Nat → Nat → Prop) (n : Nat) (t : TypeId) (a : AV) : Prop := match aggT P t with
  | some true => ∃ xs, a = .agg xs ∧ ShC P B n t xs
  | _ => ShC P B n t [a]
def ArgsC (B : Nat → Nat → Prop) (n : Nat) : List TypeId → List AV → Prop
  | [], xs => xs = []
  | t :: ts, xs => ∃ a r, xs = a :: r ∧ ArgC P B n t a ∧ ArgsC B n ts r
end

section
variable {P : Program} {B : Nat → Nat → Prop}
theorem shC_bool {n : Nat} {t : TypeId} {xs : List AV} (hu : P.underlying t = some .bool) : ShC P B (n + 1) t xs ↔ ∃ b, xs = [.v (.bool b)] := by unfold ShC; rw [hu]
theorem shC_int {n : Nat} {t : TypeId} {k : IntKind} {xs : List AV} (hu : P.underlying t = some (.int k)) : ShC P B (n + 1) t xs ↔ ∃ z, xs = [.v (.int k z)] ∧ k.min ≤ z ∧ z ≤ k.max := by
  unfold ShC; rw [hu]; simp [Lit.wf]
theorem shC_string {n : Nat} {t : TypeId} {xs : List AV} (hu : P.underlying t = some .string) : ShC P B (n + 1) t xs ↔ ∃ s : ByteArray, xs = [.v (.string s)] ∧ B s.size 1 := by unfold ShC; rw [hu]
theorem shC_slice {n : Nat} {t e : TypeId} {xs : List AV} (hu : P.underlying t = some (.slice e)) : ShC P B (n + 1) t xs ↔ ∃ ys, xs = [.lst false ys] ∧ B ys.length (P.bytesOf e) ∧ ∀ c ∈ ys, ShC P B n e c := by
  rw [ShC]; rw [hu]
theorem shC_struct {n : Nat} {t : TypeId} {ts : List TypeId} {xs : List AV} (hu : fieldTs P t = some ts) : ShC P B (n + 1) t xs ↔ PartsT (ShC P B n) ts xs := by
  unfold fieldTs at hu
  split at hu
  · rename_i fs h
    simp only [Option.some.injEq] at hu; subst hu
    rw [ShC]; rw [h]
  · simp at hu

theorem mapM_append {f : AV → Option AV} {a b a' b' : List AV} (ha : a.mapM f = some a') (hb : b.mapM f = some b') : (a ++ b).mapM f = some (a' ++ b') := by
  rw [List.mapM_append, ha]; simp [hb]
theorem mapM_ex {f : List AV → Option (List AV)} {S S' : List AV → Prop} : ∀ {l : List (List AV)}, (∀ c ∈ l, S c → ∃ d, f c = some d ∧ S' d) → (∀ c ∈ l, S c) → ∃ r, l.mapM f = some r ∧ r.length = l.length ∧ ∀ d ∈ r, S' d := by
  intro l
  induction l with
  | nil => intro _ _; exact ⟨[], rfl, rfl, fun d h => by simp at h⟩
  | cons c l ih =>
    intro h hs
    obtain ⟨d, h1, h2⟩ := h c (by simp) (hs c (by simp))
    obtain ⟨r, h3, h4, h5⟩ := ih (fun c hc => h c (by simp [hc])) fun c hc => hs c (by simp [hc])
    refine ⟨d :: r, by simp [h1, h3], by simp [h4], fun x hx => ?_⟩
    rcases List.mem_cons.1 hx with rfl | hx
    · exact h2
    · exact h5 x hx

theorem parts_deep {n m : Nat} {H : Hp} (ih : ∀ (t : TypeId) (xs : List AV), Sh P B n t xs → ∃ ys, xs.mapM (deep H m) = some ys ∧ ShC P B n t ys) : ∀ (fs : List Field) (xs : List AV), Parts (Sh P B n) fs xs → ∃ ys, xs.mapM (deep H m) = some ys ∧ PartsT (ShC P B n) (fs.map (·.type)) ys := by
  intro fs
  induction fs with
  | nil => intro xs h; simp only [Parts] at h; subst h; exact ⟨[], rfl, rfl⟩
  | cons f fs ihf =>
    intro xs h
    obtain ⟨a, b, rfl, h1, h2⟩ := h
    obtain ⟨a', h3, h4⟩ := ih _ _ h1
    obtain ⟨b', h5, h6⟩ := ihf _ h2
    exact ⟨a' ++ b', mapM_append h3 h5, a', b', rfl, h4, h6⟩

theorem sh_deep (hB : ∀ b, B 0 b) {H : Hp} : ∀ (n m : Nat) (t : TypeId) (xs : List AV), n ≤ m → Sh P B n t xs → ∃ ys, xs.mapM (deep H m) = some ys ∧ ShC P B n t ys := by
  intro n
  induction n with
  | zero => intro m t xs _ h; simp [Sh] at h
  | succ n ih =>
    intro m t xs hm h
    obtain ⟨m, rfl⟩ : ∃ k, m = k + 1 := ⟨m - 1, by omega⟩
    unfold Sh at h
    cases hu : P.underlying t with
    | none => rw [hu] at h; exact h.elim
    | some D =>
      rw [hu] at h
      cases D <;> first | exact h.elim | skip
      case bool => obtain ⟨b, rfl⟩ := h; exact ⟨[.v (.bool b)], rfl, (shC_bool hu).2 ⟨b, rfl⟩⟩
      case int k =>
        obtain ⟨z, rfl, hz⟩ := h
        refine ⟨[.v (.int k z)], rfl, (shC_int hu).2 ⟨z, rfl, by simpa [Lit.wf] using hz⟩⟩
      case string => obtain ⟨s, rfl, hs⟩ := h; exact ⟨[.v (.string s)], rfl, (shC_string hu).2 ⟨s, rfl, hs⟩⟩
      case slice e =>
        rcases h with rfl | ⟨ys, rfl, hb, hc⟩
        · exact ⟨[.lst false []], rfl, (shC_slice hu).2 ⟨[], rfl, hB _, fun c h => by simp at h⟩⟩
        · obtain ⟨r, h1, h2, h3⟩ := mapM_ex (f := fun c : List AV => c.mapM (deep H m)) (S := Sh P B n e) (S' := ShC P B n e) (l := ys) (fun c _ hs => ih m e c (by omega) hs) hc
          refine ⟨[.lst false r], ?_, (shC_slice hu).2 ⟨r, rfl, by rw [h2]; exact hb, h3⟩⟩
          simp only [List.mapM_cons, List.mapM_nil, deep, h1]; rfl
      case struct fs =>
        have hf : fieldTs P t = some (fs.toList.map (·.type)) := by unfold fieldTs; rw [hu]
        obtain ⟨ys, h1, h2⟩ := parts_deep (fun t xs hs => ih (m + 1) t xs (by omega) hs) _ _ h
        exact ⟨ys, h1, (shC_struct hf).2 h2⟩

theorem args_deepC (hB : ∀ b, B 0 b) {n m : Nat} (hn : n ≤ m) {H : Hp} : ∀ (ts : List TypeId) (xs : List AV), ArgsSh P B n ts xs → ∃ ys, xs.mapM (deep H (m + 1)) = some ys ∧ ArgsC P B n ts ys := by
  intro ts
  induction ts with
  | nil => intro xs h; simp only [ArgsSh] at h; subst h; exact ⟨[], rfl, rfl⟩
  | cons t ts ih =>
    intro xs h
    obtain ⟨a, r, rfl, h1, h2⟩ := h
    obtain ⟨r', h3, h4⟩ := ih r h2
    have key : ∃ a', deep H (m + 1) a = some a' ∧ ArgC P B n t a' := by
      unfold ArgSh at h1
      split at h1
      · rename_i ha
        obtain ⟨xs, rfl, hs⟩ := h1
        obtain ⟨ys, h5, h6⟩ := sh_deep hB n m t xs hn hs (H := H)
        refine ⟨.agg ys, by simp only [deep, h5]; rfl, ?_⟩
        unfold ArgC; rw [ha]; exact ⟨ys, rfl, h6⟩
      · rename_i ha
        obtain ⟨ys, h5, h6⟩ := sh_deep hB n (m + 1) t [a] (by omega) h1 (H := H)
        simp only [List.mapM_cons, List.mapM_nil, Option.bind_eq_bind, Option.bind_eq_some_iff, Option.pure_def, Option.some.injEq] at h5
        obtain ⟨a', h5, _, rfl, rfl⟩ := h5
        refine ⟨a', h5, ?_⟩
        unfold ArgC
        split
        · rename_i ha'; exact absurd ha' ha
        · exact h6
    obtain ⟨a', h5, h6⟩ := key
    exact ⟨a' :: r', by simp [h5, h3], a', r', rfl, h6, h4⟩

theorem shC_fz : ∀ (n m : Nat) (t : TypeId) (xs : List AV), n ≤ m → ShC P B n t xs → ∀ x ∈ xs, Fz m x := by
  intro n
  induction n with
  | zero => intro m t xs _ h; simp [ShC] at h
  | succ n ih =>
    intro m t xs hm h
    obtain ⟨m, rfl⟩ : ∃ k, m = k + 1 := ⟨m - 1, by omega⟩
    unfold ShC at h
    cases hu : P.underlying t with
    | none => rw [hu] at h; exact h.elim
    | some D =>
      rw [hu] at h
      cases D <;> first | exact h.elim | skip
      case bool => obtain ⟨b, rfl⟩ := h; intro x hx; simp at hx; subst hx; exact Fz.bool _ _
      case int k => obtain ⟨z, rfl, hz⟩ := h; intro x hx; simp at hx; subst hx; exact Fz.int _ _ _
      case string => obtain ⟨s, rfl, hs⟩ := h; intro x hx; simp at hx; subst hx; exact Fz.string _ _
      case slice e =>
        obtain ⟨ys, rfl, hb, hc⟩ := h
        intro x hx; simp at hx; subst hx
        exact Fz.lst fun c hc' y hy => ih m e c (by omega) (hc c hc') y hy
      case struct fs =>
        have : ∀ (ts : List TypeId) (xs : List AV), PartsT (ShC P B n) ts xs → ∀ x ∈ xs, Fz (m + 1) x := by
          intro ts
          induction ts with
          | nil => intro xs h x hx; simp only [PartsT] at h; subst h; simp at hx
          | cons t ts iht =>
            intro xs h x hx
            obtain ⟨a, b, rfl, h1, h2⟩ := h
            rcases List.mem_append.1 hx with hx | hx
            · exact ih (m + 1) t a (by omega) h1 x hx
            · exact iht b h2 x hx
        exact this _ _ h

theorem reach_0 (b : Nat) : reach 0 b := by simp [reach]
/-- A law whose arguments are in their one form. -/
theorem law_of {cfg : Cfg} {f n : Nat} {fn : Func} (hf : P.funcs[f]? = some fn) (hq : cfg.prim f = none) (ho : fnOk P cfg f fn = true) (hr : cfg.raw f = false) (hn : n ≤ 11) {ts : List TypeId}
    (h : ∀ xs, ArgsC P reach n ts xs → pure P cfg f fn xs = some (.v (.bool true), true)) (xs : List AV) (hx : ArgsSh P reach n ts xs) : ∃ H', call P cfg 0 f xs Hp.nil = some (.v (.bool true), H') := by
  obtain ⟨ys, h1, h2⟩ := args_deepC reach_0 hn ts xs hx (H := Hp.nil)
  exact ⟨_, call_of hf hq ho hr (by omega) h1 (h ys h2) (.inl rfl)⟩
end
end Go.Proofs.YtlkoklhnodcipaaDoor.Eng
