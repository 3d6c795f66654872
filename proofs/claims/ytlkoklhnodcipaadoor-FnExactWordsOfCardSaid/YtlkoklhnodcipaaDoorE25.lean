/- The engine, part 25: functions whose laws are shown by cases on a bare argument: copies of slices that tell nil. -/
import Derived.Test.YtlkoklhnodcipaaDoorE24
namespace Go.Proofs.YtlkoklhnodcipaaDoor.Eng
open Go Go.RowKit
set_option linter.unusedSimpArgs false
set_option linter.unusedVariables false

section
variable {P : Program} {F : Nat → Nat → Prop} {w : World}
/-- A pure law in the real world: the value, fresh where it is clean. -/
theorem prim_of_pure {cfg : Cfg} (hprim : PrimOk P cfg) {f : Nat} {fn : Func} (hf : P.funcs[f]? = some fn) (ho : fnOk P cfg f fn = true) {ts : List AV} {v : AV} (h : pure P cfg f fn ts = some (v, true))
    {ρ : Nat → Loc} {vals : Array Value} (I : Inv w.heap.size Hp.nil ρ F w) (hl : ts.length = vals.size) (hv : ∀ (i : Nat) x y, ts[i]? = some x → vals[i]? = some y → VR Hp.nil ρ F w x y) :
    Calls P f vals w fun e w' => ∃ u F', e = .returned u ∧ After w.heap.size Hp.nil ρ F w Hp.nil ρ F' w' ∧ VR Hp.nil ρ F' w' v u ∧ (true = true → VR Hp.nil ρ (fun k o => F' k o ∧ w.heap.size ≤ k) w' v u) := by
  unfold pure at h
  obtain ⟨⟨r0, H1⟩, hb, h⟩ := Option.bind_eq_some_iff.1 h
  obtain ⟨t, hd, heq⟩ := Option.map_eq_some_iff.1 h
  simp only [Prod.mk.injEq] at heq
  obtain ⟨rfl, hcl⟩ := heq
  obtain ⟨n, hn⟩ := (body_some P cfg).1 hb
  refine (brun_ok (callOk hprim n) (cfPure cfg n) (cfExt cfg n) hf ho hn I hl hv).mono fun e w' hR => ?_
  obtain ⟨u, ρ', F', rfl, haf, hvr⟩ := hR
  have hbk := back_ok I haf.below
  have key : VR Hp.nil ρ (fun k o => w.heap.size ≤ k ∧ k < w'.heap.size) w' t u := by
    refine VR.ofNil (H2 := Hp.nil) (ρ' := ρ) ?_
    refine deep_ok haf.inv depthD _ u _ hd hvr (.inr hcl) (.inl fun b cs i hc hi => ?_)
    obtain ⟨b1, b2, b3⟩ := haf.inv.blk b cs hc
    exact ⟨b1, b2⟩
  exact ⟨u, _, rfl, hbk, key.sub fun k o h => .inr h, fun _ => key.sub fun k o h => ⟨.inr h, h.1⟩⟩

def byteRow : List AV → Bool
  | [.v (.int .u8 _)] => true
  | _ => false
theorem rows_bytes : ∀ xs : List (List AV), xs.all byteRow = true → ∃ l : List Int, xs = l.map fun z => [cell z] := by
  intro xs
  induction xs with
  | nil => intro _; exact ⟨[], rfl⟩
  | cons c xs ih =>
    intro h
    simp only [List.all_cons, Bool.and_eq_true] at h
    obtain ⟨l, rfl⟩ := ih h.2
    have hc := h.1
    unfold byteRow at hc
    split at hc
    · rename_i z; exact ⟨z :: l, rfl⟩
    · simp at hc
/-- The same, into own blocks. -/
theorem prim_of_own {cfg : Cfg} (hprim : PrimOk P cfg) {f : Nat} {fn : Func} (hf : P.funcs[f]? = some fn) (ho : fnOk P cfg f fn = true) {ts : List AV} {v : AV} (h : owned P cfg f fn ts = some v)
    {ρ : Nat → Loc} {vals : Array Value} (I : Inv w.heap.size Hp.nil ρ F w) (hl : ts.length = vals.size) (hv : ∀ (i : Nat) x y, ts[i]? = some x → vals[i]? = some y → VR Hp.nil ρ F w x y) : OwnPost P f vals ρ F w v := by
  unfold owned at h
  obtain ⟨⟨r0, H1⟩, hb, h⟩ := Option.bind_eq_some_iff.1 h
  obtain ⟨fp, hfp, h⟩ := Option.bind_eq_some_iff.1 h
  split at h
  rotate_left
  · simp at h
  rename_i hnd
  obtain ⟨n, hn⟩ := (body_some P cfg).1 hb
  refine (brun_ok (callOk hprim n) (cfPure cfg n) (cfExt cfg n) hf ho hn I hl hv).mono fun e w' hR => ?_
  obtain ⟨u, ρ', F', rfl, haf, hvr⟩ := hR
  exact ⟨u, H1, ρ', F', r0, fp, rfl, haf, hvr, hfp, hnd, h⟩

/-- What a copy of bytes gives: the same bytes. -/
def cloneG (N : Nat) : List AV → Option (AV × Bool)
  | [.lst false xs] => if xs.length ≤ N ∧ xs.all byteRow = true then some (.lst false xs, true) else none
  | _ => none
theorem clone_ok {cfg : Cfg} (hprim : PrimOk P cfg) {f : Nat} {fn : Func} (hf : P.funcs[f]? = some fn) (ho : fnOk P cfg f fn = true) {N : Nat}
    (h1 : ∀ c, pure P cfg f fn [.v (.slice none 0 c)] = some (.lst false [], true)) (h2 : ∀ a c, pure P cfg f fn [.v (.slice (some a) 0 c)] = some (.lst false [], true))
    (h3 : ∀ l : List Int, l ≠ [] → l.length ≤ N → pure P cfg f fn [bytesL l] = some (bytesL l, true)) {ts : List AV} {v : AV} {cl : Bool} (hg : cloneG N ts = some (v, cl))
    {ρ : Nat → Loc} {vals : Array Value} (I : Inv w.heap.size Hp.nil ρ F w) (hl : ts.length = vals.size) (hv : ∀ (i : Nat) x y, ts[i]? = some x → vals[i]? = some y → VR Hp.nil ρ F w x y) :
    Calls P f vals w fun e w' => ∃ u F', e = .returned u ∧ After w.heap.size Hp.nil ρ F w Hp.nil ρ F' w' ∧ VR Hp.nil ρ F' w' v u ∧ (cl = true → VR Hp.nil ρ (fun k o => F' k o ∧ w.heap.size ≤ k) w' v u) := by
  unfold cloneG at hg
  split at hg
  rotate_left
  · simp at hg
  rename_i xs
  split at hg
  rotate_left
  · simp at hg
  rename_i hc
  simp only [Option.some.injEq, Prod.mk.injEq] at hg
  obtain ⟨rfl, rfl⟩ := hg
  obtain ⟨val, hval⟩ : ∃ val, vals = #[val] := by
    have : vals.size = 1 := by simpa using hl.symm
    obtain ⟨l⟩ := vals
    match l, this with
    | [val], _ => exact ⟨val, rfl⟩
  subst hval
  have h0 := hv 0 _ val rfl rfl
  cases xs with
  | nil =>
    cases h0 with
    | lst0 hfu =>
      rename_i a c
      have hv' : ∀ (i : Nat) x y, ([.v (.slice a 0 c)] : List AV)[i]? = some x → (#[.slice a 0 c] : Array Value)[i]? = some y → VR Hp.nil ρ F w x y := by
        intro i x y hx hy
        cases i with
        | zero => simp at hx hy; subst hx hy; exact .v
        | succ i => simp at hx
      cases a with
      | none => exact prim_of_pure hprim hf ho (h1 c) I rfl hv'
      | some a => exact prim_of_pure hprim hf ho (h2 a c) I rfl hv'
    | lst rd hne => exact absurd rfl hne
  | cons x xs =>
    obtain ⟨l, hl'⟩ := rows_bytes _ hc.2
    have hne : l ≠ [] := fun e => by rw [e] at hl'; simp at hl'
    have hp := h3 l hne (by have := hc.1; rw [hl'] at this; simpa using this)
    rw [hl'] at hv ⊢
    exact prim_of_pure hprim hf ho hp I hl hv
theorem clone_own {cfg : Cfg} (hprim : PrimOk P cfg) {f : Nat} {fn : Func} (hf : P.funcs[f]? = some fn) (ho : fnOk P cfg f fn = true) {N : Nat}
    (h1 : ∀ c, owned P cfg f fn [.v (.slice none 0 c)] = some (.lst false [])) (h2 : ∀ a c, owned P cfg f fn [.v (.slice (some a) 0 c)] = some (.lst false []))
    (h3 : ∀ l : List Int, l ≠ [] → l.length ≤ N → owned P cfg f fn [bytesL l] = some (bytesL l)) {ts : List AV} {v : AV} {cl : Bool} (hg : cloneG N ts = some (v, cl))
    {ρ : Nat → Loc} {vals : Array Value} (I : Inv w.heap.size Hp.nil ρ F w) (hl : ts.length = vals.size) (hv : ∀ (i : Nat) x y, ts[i]? = some x → vals[i]? = some y → VR Hp.nil ρ F w x y) :
    OwnPost P f vals ρ F w v := by
  unfold cloneG at hg
  split at hg
  rotate_left
  · simp at hg
  rename_i xs
  split at hg
  rotate_left
  · simp at hg
  rename_i hc
  simp only [Option.some.injEq, Prod.mk.injEq] at hg
  obtain ⟨rfl, rfl⟩ := hg
  obtain ⟨val, hval⟩ : ∃ val, vals = #[val] := by
    have : vals.size = 1 := by simpa using hl.symm
    obtain ⟨l⟩ := vals
    match l, this with
    | [val], _ => exact ⟨val, rfl⟩
  subst hval
  have h0 := hv 0 _ val rfl rfl
  cases xs with
  | nil =>
    cases h0 with
    | lst0 hfu =>
      rename_i a c
      have hv' : ∀ (i : Nat) x y, ([.v (.slice a 0 c)] : List AV)[i]? = some x → (#[.slice a 0 c] : Array Value)[i]? = some y → VR Hp.nil ρ F w x y := by
        intro i x y hx hy
        cases i with
        | zero => simp at hx hy; subst hx hy; exact .v
        | succ i => simp at hx
      cases a with
      | none => exact prim_of_own hprim hf ho (h1 c) I rfl hv'
      | some a => exact prim_of_own hprim hf ho (h2 a c) I rfl hv'
    | lst rd hne => exact absurd rfl hne
  | cons x xs =>
    obtain ⟨l, hl'⟩ := rows_bytes _ hc.2
    have hne : l ≠ [] := fun e => by rw [e] at hl'; simp at hl'
    have hp := h3 l hne (by have := hc.1; rw [hl'] at this; simpa using this)
    rw [hl'] at hv ⊢
    exact prim_of_own hprim hf ho hp I hl hv
end
end Go.Proofs.YtlkoklhnodcipaaDoor.Eng
