/- The engine, part 2: more rounds tell the same; the evaluator without a number of rounds, and its equations. -/
import Derived.Test.YtnejoidfbgklbaaGreatDoorE1
namespace Go.Proofs.YtnejoidfbgklbaaGreatDoor.Eng
open Go
set_option linter.unusedSimpArgs false
set_option linter.unusedVariables false

/-- Where the first tells something, the second tells the same. -/
def LeO {α : Type} (a b : Option α) : Prop := ∀ r, a = some r → b = some r
theorem LeO.refl {α : Type} (a : Option α) : LeO a a := fun _ h => h
theorem LeO.trans {α : Type} {a b c : Option α} (h : LeO a b) (k : LeO b c) : LeO a c := fun r e => k r (h r e)
theorem LeO.bind {α β : Type} {a b : Option α} {f g : α → Option β} (h : LeO a b) (k : ∀ x, LeO (f x) (g x)) : LeO (a.bind f) (b.bind g) := by
  intro r e
  cases ha : a with
  | none => rw [ha] at e; simp at e
  | some x => rw [ha] at e; rw [h x ha]; exact k x r e
theorem LeO.map {α β : Type} {a b : Option α} (f : α → β) (h : LeO a b) : LeO (a.map f) (b.map f) := by
  intro r e
  cases ha : a with
  | none => rw [ha] at e; simp at e
  | some x => rw [ha] at e; rw [h x ha]; exact e
theorem LeO.none {α : Type} (b : Option α) : LeO none b := fun _ h => by simp at h

def LeC (cf cf' : CallF) : Prop := ∀ p f as H, LeO (cf p f as H) (cf' p f as H)

section
variable {P : Program}

theorem aop_mono {cf cf' : CallF} (hc : LeC cf cf') (pol : Nat → Nat) (o : Oper) (e : Env) (H : Hp) : LeO (aop P pol cf o e H) (aop P pol cf' o e H) := by
  unfold aop
  split <;> first | exact LeO.refl _ | skip
  rename_i c _
  split <;> first | exact LeO.refl _ | skip
  split <;> first | exact LeO.refl _ | exact hc _ _ _ _

theorem astep_mono {cf cf' : CallF} (hc : LeC cf cf') (pol : Nat → Nat) (ops : Array Oper) (o : Oper) (e : Env) (H : Hp) : LeO (astep P pol cf ops o e H) (astep P pol cf' ops o e H) := by
  unfold astep
  refine LeO.bind (LeO.refl _) fun w => ?_
  split
  · exact LeO.map _ (aop_mono hc _ _ _ _)
  · exact LeO.refl _

theorem asteps_mono {cf cf' : CallF} (hc : LeC cf cf') (pol : Nat → Nat) (ops : Array Oper) (l : List Oper) : ∀ e H, LeO (asteps P pol cf ops l e H) (asteps P pol cf' ops l e H) := by
  induction l with
  | nil => intro e H; exact LeO.refl _
  | cons o r ih => intro e H; exact LeO.bind (astep_mono hc _ _ _ _ _) fun s => ih _ _

theorem asteps_app (pol : Nat → Nat) (cf : CallF) (ops : Array Oper) (a b : List Oper) : ∀ e H, asteps P pol cf ops (a ++ b) e H = (asteps P pol cf ops a e H).bind fun s => asteps P pol cf ops b s.1 s.2 := by
  induction a with
  | nil => intro e H; rfl
  | cons o a ih =>
    intro e H
    simp only [List.cons_append, asteps, ih]
    cases astep P pol cf ops o e H <;> rfl
theorem asteps_take {pol : Nat → Nat} {cf : CallF} {ops : Array Oper} {e : Env} {H : Hp} {x : Env × Hp} (h : asteps P pol cf ops ops.toList e H = some x) (k : Nat) : ∃ s, asteps P pol cf ops (ops.toList.take k) e H = some s := by
  rw [← List.take_append_drop k ops.toList, asteps_app] at h
  obtain ⟨s, h1, -⟩ := Option.bind_eq_some_iff.1 h
  exact ⟨s, h1⟩
theorem stepV_read {pol : Nat → Nat} {cf cf' : CallF} {ops : Array Oper} {o : Oper} {e : Env} {H : Hp} (h : readOp o = true) : stepV P pol cf ops o e H = stepV P pol cf' ops o e H := by
  obtain ⟨dst, op, ty, pos, after, guard⟩ := o
  unfold stepV aop
  cases op <;> first | rfl | (exfalso; simp [readOp] at h; done) | skip
  case makeFunc fn a b => cases fn <;> rfl
theorem lateO_read {pol : Nat → Nat} {o : Oper} (h : lateO pol o = true) : readOp o = true := by
  simp only [lateO, Bool.and_eq_true] at h; exact h.2
theorem freeO_read {pol : Nat → Nat} {o : Oper} (h : freeO pol o = true) : readOp o = true := by
  obtain ⟨dst, op, ty, pos, after, guard⟩ := o
  simp only [freeO, Bool.and_eq_true] at h
  cases op <;> first | rfl | (exfalso; simp [frK] at h)
theorem lateOk_mono {cf cf' : CallF} (hc : LeC cf cf') {pol : Nat → Nat} {ops : Array Oper} {s : St} {x : Env × Hp} (hl : ¬ ¬ LateOk P pol cf ops s) (hx : asteps P pol cf ops ops.toList s.1 s.2 = some x) : LateOk P pol cf' ops s := by
  obtain ⟨l1, l2⟩ := Classical.not_not.1 hl
  refine ⟨fun i o ho hlo k si sk hik hk hb h1 h2 => ?_, fun i o ho hfo si h1 => ?_⟩
  · obtain ⟨ti, g1⟩ := asteps_take hx i
    obtain ⟨tk, g2⟩ := asteps_take hx k
    have e1 := asteps_mono hc pol ops _ _ _ _ g1
    have e2 := asteps_mono hc pol ops _ _ _ _ g2
    rw [h1] at e1
    rw [h2] at e2
    obtain rfl := Option.some.inj e1
    obtain rfl := Option.some.inj e2
    obtain ⟨v, v1, v2⟩ := l1 i o ho hlo k _ _ hik hk hb g1 g2
    have hr := lateO_read hlo
    exact ⟨v, by rw [← stepV_read hr]; exact v1, by rw [← stepV_read hr]; exact v2⟩
  · obtain ⟨ti, g1⟩ := asteps_take hx i
    have e1 := asteps_mono hc pol ops _ _ _ _ g1
    rw [h1] at e1
    obtain rfl := Option.some.inj e1
    obtain ⟨v, v1⟩ := l2 i o ho hfo _ g1
    refine ⟨v, fun k sk hk h2 => ?_⟩
    obtain ⟨tk, g2⟩ := asteps_take hx k
    have e2 := asteps_mono hc pol ops _ _ _ _ g2
    rw [h2] at e2
    obtain rfl := Option.some.inj e2
    rw [← stepV_read (freeO_read hfo)]; exact v1 k _ hk g2
/-- The late reads by the limit's calls: what the rounds tell. -/
theorem lateOk_back {cf cf' : CallF} (hc : LeC cf cf') {pol : Nat → Nat} {ops : Array Oper} {s : St} {x : Env × Hp} (hl : LateOk P pol cf' ops s) (hx : asteps P pol cf ops ops.toList s.1 s.2 = some x) : LateOk P pol cf ops s := by
  obtain ⟨l1, l2⟩ := hl
  refine ⟨fun i o ho hlo k si sk hik hk hb h1 h2 => ?_, fun i o ho hfo si h1 => ?_⟩
  · have e1 := asteps_mono hc pol ops _ _ _ _ h1
    have e2 := asteps_mono hc pol ops _ _ _ _ h2
    obtain ⟨v, v1, v2⟩ := l1 i o ho hlo k _ _ hik hk hb e1 e2
    have hr := lateO_read hlo
    exact ⟨v, by rw [stepV_read hr]; exact v1, by rw [stepV_read hr]; exact v2⟩
  · have e1 := asteps_mono hc pol ops _ _ _ _ h1
    obtain ⟨v, v1⟩ := l2 i o ho hfo _ e1
    exact ⟨v, fun k sk hk h2 => by rw [stepV_read (freeO_read hfo)]; exact v1 k _ hk (asteps_mono hc pol ops _ _ _ _ h2)⟩

theorem iter_mono {f g : St → Option (AX × St)} (h : ∀ s, LeO (f s) (g s)) : ∀ n m s, n ≤ m → LeO (iter f n s) (iter g m s) := by
  intro n
  induction n with
  | zero => intro m s _; exact LeO.none _
  | succ n ih =>
    intro m s hm
    obtain ⟨m, rfl⟩ : ∃ k, m = k + 1 := ⟨m - 1, by omega⟩
    refine LeO.bind (h s) fun r => ?_
    obtain ⟨x, s'⟩ := r
    cases x <;> first | exact ih m s' (by omega) | exact LeO.refl _

theorem crun_mono {cf cf' : CallF} (hc : LeC cf cf') (pol : Nat → Nat) {n m : Nat} (hn : n ≤ m) (c : Code) : ∀ s, LeO (crun P pol cf n c s) (crun P pol cf' m c s) := by
  induction c with
  | skip | exit | ret => intro s; exact LeO.refl _
  | region id ops d =>
    intro s r h
    simp only [crun] at h ⊢
    split at h
    · simp at h
    · rename_i hl
      obtain ⟨x, hx, rfl⟩ := Option.map_eq_some_iff.1 h
      have hx' := asteps_mono hc pol ops ops.toList _ _ _ hx
      rw [if_neg, hx']; rfl
      rintro ⟨h1, h2⟩
      refine h2 (lateOk_mono hc (hl := fun h => hl ⟨h1, h⟩) hx)
  | seq a b iha ihb =>
    intro s
    refine LeO.bind (iha s) fun r => ?_
    obtain ⟨x, s'⟩ := r
    cases x <;> first | exact ihb s' | exact LeO.refl _
  | cond x a b iha ihb =>
    intro s
    simp only [crun]
    split <;> first | exact iha s | exact ihb s | exact LeO.none _
  | block id c ih => intro s; exact LeO.map _ (ih s)
  | loop c ih => intro s; exact iter_mono ih n m s hn
  | _ => intro s; exact LeO.none _

theorem brun_mono {cf cf' : CallF} (hc : LeC cf cf') (pol : Nat → Nat) {n m : Nat} (hn : n ≤ m) (fn : Func) (as : List AV) (H : Hp) : LeO (brun P pol cf n fn as H) (brun P pol cf' m fn as H) := by
  exact LeO.bind (crun_mono hc _ hn _ _) fun r => LeO.refl _

theorem callN_mono (cfg : Cfg) : ∀ n, LeC (callN P cfg n) (callN P cfg (n + 1)) := by
  intro n
  induction n with
  | zero => intro p f as H; exact LeO.none _
  | succ n ih =>
    intro p f as H
    simp only [callN]
    refine LeO.bind (LeO.refl _) fun fn => ?_
    split
    · exact LeO.refl _
    split
    · split
      · exact LeO.bind (brun_mono ih _ (by omega) _ _ _) fun _ => LeO.refl _
      · refine LeO.bind (LeO.refl _) fun ts => ?_
        split
        · refine LeO.bind ?_ fun _ => LeO.refl _
          exact LeO.bind (brun_mono ih _ (by omega) _ _ _) fun _ => LeO.refl _
        · refine LeO.bind ?_ fun _ => LeO.refl _
          exact LeO.bind (brun_mono ih _ (by omega) _ _ _) fun _ => LeO.refl _
    · exact LeO.refl _
theorem callN_le (cfg : Cfg) {n m : Nat} (h : n ≤ m) : LeC (callN P cfg n) (callN P cfg m) := by
  obtain ⟨d, rfl⟩ := Nat.le.dest h
  clear h
  induction d with
  | zero => intro p f as H; exact LeO.refl _
  | succ d ih => intro p f as H; exact (ih p f as H).trans (callN_mono cfg _ p f as H)
end

/-! The value behind enough rounds. -/
def Rise {α : Type} (F : Nat → Option α) : Prop := ∀ n m, n ≤ m → LeO (F n) (F m)
open Classical in
noncomputable def lim {α : Type} (F : Nat → Option α) : Option α := if h : ∃ n, (F n).isSome then F (Classical.choose h) else none
theorem lim_some {α : Type} {F : Nat → Option α} (hF : Rise F) {a : α} : lim F = some a ↔ ∃ n, F n = some a := by
  unfold lim
  split
  · rename_i h
    have hs := Classical.choose_spec h
    constructor
    · intro e; exact ⟨_, e⟩
    · rintro ⟨n, e⟩
      obtain ⟨b, hb⟩ := Option.isSome_iff_exists.1 hs
      rw [hb]
      have h1 := hF _ _ (Nat.le_max_left (Classical.choose h) n) b hb
      have h2 := hF _ _ (Nat.le_max_right (Classical.choose h) n) a e
      rw [h1] at h2; exact h2
  · rename_i h
    constructor
    · intro e; simp at e
    · rintro ⟨n, e⟩; exact absurd ⟨n, by rw [e]; rfl⟩ h
theorem lim_ext {α : Type} {F : Nat → Option α} (hF : Rise F) {x : Option α} (h : ∀ a, x = some a ↔ ∃ n, F n = some a) : lim F = x := by
  cases hx : x with
  | none =>
    cases hl : lim F with
    | none => rfl
    | some a => have := (h a).2 ((lim_some hF).1 hl); rw [hx] at this; simp at this
  | some a => exact (lim_some hF).2 ((h a).1 hx)

section
variable (P : Program) (cfg : Cfg)

noncomputable def call : CallF := fun p f as H => lim fun n => callN P cfg n p f as H
noncomputable def code (fid : Nat) (c : Code) (s : St) : Option (AX × St) := lim fun n => crun P (cfg.pol fid) (callN P cfg n) n c s

theorem call_rise (p f : Nat) (as : List AV) (H : Hp) : Rise fun n => callN P cfg n p f as H := fun _ _ h => callN_le cfg h p f as H
theorem code_rise (fid : Nat) (c : Code) (s : St) : Rise fun n => crun P (cfg.pol fid) (callN P cfg n) n c s := fun _ _ h => crun_mono (callN_le cfg h) _ h c s
theorem call_some {p f : Nat} {as : List AV} {H : Hp} {r : AV × Hp} : call P cfg p f as H = some r ↔ ∃ n, callN P cfg n p f as H = some r := lim_some (call_rise P cfg p f as H)
theorem code_some {fid : Nat} {c : Code} {s : St} {r : AX × St} : code P cfg fid c s = some r ↔ ∃ n, crun P (cfg.pol fid) (callN P cfg n) n c s = some r := lim_some (code_rise P cfg fid c s)
theorem le_call (n : Nat) : LeC (callN P cfg n) (call P cfg) := fun _ _ _ _ _ h => (call_some P cfg).2 ⟨n, h⟩

theorem aop_call (pol : Nat → Nat) (o : Oper) (e : Env) (H : Hp) {r : AV × Hp} (h : aop P pol (call P cfg) o e H = some r) : ∃ n, aop P pol (callN P cfg n) o e H = some r := by
  unfold aop at h ⊢
  split at h <;> first | exact ⟨0, h⟩ | skip
  split at h <;> first | exact ⟨0, by simp [*]⟩ | skip
  · split at h
    · rename_i hf
      obtain ⟨n, hn⟩ := (call_some P cfg).1 h
      exact ⟨n, by simp only [*]⟩
    · simp at h
theorem astep_call (pol : Nat → Nat) (ops : Array Oper) (o : Oper) (e : Env) (H : Hp) {r : Env × Hp} (h : astep P pol (call P cfg) ops o e H = some r) : ∃ n, astep P pol (callN P cfg n) ops o e H = some r := by
  unfold astep at h ⊢
  obtain ⟨w, hw, h⟩ := Option.bind_eq_some_iff.1 h
  cases w with
  | false => exact ⟨0, by rw [hw]; exact h⟩
  | true =>
    simp only [if_true] at h
    obtain ⟨x, hx, rfl⟩ := Option.map_eq_some_iff.1 h
    obtain ⟨n, hn⟩ := aop_call P cfg pol o e H hx
    exact ⟨n, by rw [hw]; simp [hn]⟩
theorem asteps_call (pol : Nat → Nat) (ops : Array Oper) (l : List Oper) : ∀ e H {r : Env × Hp}, asteps P pol (call P cfg) ops l e H = some r → ∃ n, asteps P pol (callN P cfg n) ops l e H = some r := by
  induction l with
  | nil => intro e H r h; exact ⟨0, h⟩
  | cons o l ih =>
    intro e H r h
    obtain ⟨s, hs, h⟩ := Option.bind_eq_some_iff.1 h
    obtain ⟨n, hn⟩ := astep_call P cfg pol ops o e H hs
    obtain ⟨m, hm⟩ := ih _ _ h
    refine ⟨max n m, Option.bind_eq_some_iff.2 ⟨s, ?_, ?_⟩⟩
    · exact astep_mono (callN_le cfg (Nat.le_max_left n m)) _ _ _ _ _ _ hn
    · exact asteps_mono (callN_le cfg (Nat.le_max_right n m)) _ _ _ _ _ _ hm

theorem code_skip (fid : Nat) (s : St) : code P cfg fid .skip s = some (.normal, s) := (code_some P cfg).2 ⟨0, rfl⟩
theorem code_ret (fid : Nat) (s : St) : code P cfg fid .ret s = some (.ret, s) := (code_some P cfg).2 ⟨0, rfl⟩
theorem code_exit (fid id : Nat) (s : St) : code P cfg fid (.exit id) s = some (.exit id, s) := (code_some P cfg).2 ⟨0, rfl⟩
theorem code_region (fid id : Nat) (ops : Array Oper) (d : Bool) (s : St) (hl : latF (cfg.pol fid) = false) : code P cfg fid (.region id ops d) s = (asteps P (cfg.pol fid) (call P cfg) ops ops.toList s.1 s.2).map (.normal, ·) := by
  have hn : ¬ (latF (cfg.pol fid) = true) := by rw [hl]; simp
  refine lim_ext (code_rise P cfg fid _ s) fun a => ?_
  constructor
  · intro h
    obtain ⟨x, hx, rfl⟩ := Option.map_eq_some_iff.1 h
    obtain ⟨n, hn'⟩ := asteps_call P cfg _ _ _ _ _ hx
    exact ⟨n, by simp [crun, hn', hl]⟩
  · rintro ⟨n, h⟩
    simp only [crun] at h
    rw [if_neg (fun h => hn h.1)] at h
    exact LeO.map _ (asteps_mono (le_call P cfg n) _ _ _ _ _) _ h
/-- A region with late reads. -/
theorem code_regionL (fid id : Nat) (ops : Array Oper) (d : Bool) (s : St) {x : Env × Hp} (hx : asteps P (cfg.pol fid) (call P cfg) ops ops.toList s.1 s.2 = some x) (hl : LateOk P (cfg.pol fid) (call P cfg) ops s) : code P cfg fid (.region id ops d) s = some (.normal, x) := by
  obtain ⟨n, hn⟩ := asteps_call P cfg _ _ _ _ _ hx
  refine (code_some P cfg).2 ⟨n, ?_⟩
  simp only [crun]
  rw [if_neg, hn]; rfl
  rintro ⟨-, h2⟩
  exact h2 (lateOk_back (le_call P cfg n) hl hn)
theorem code_seq (fid : Nat) (a b : Code) (s : St) : code P cfg fid (.seq a b) s = (code P cfg fid a s).bind (thenN (code P cfg fid b)) := by
  refine lim_ext (code_rise P cfg fid _ s) fun r => ?_
  constructor
  · intro h
    obtain ⟨⟨x, s'⟩, h1, h2⟩ := Option.bind_eq_some_iff.1 h
    obtain ⟨n, hn⟩ := (code_some P cfg).1 h1
    cases x with
    | normal =>
      obtain ⟨m, hm⟩ := (code_some P cfg).1 h2
      refine ⟨max n m, Option.bind_eq_some_iff.2 ⟨(.normal, s'), code_rise P cfg fid a s _ _ (Nat.le_max_left n m) _ hn, code_rise P cfg fid b s' _ _ (Nat.le_max_right n m) _ hm⟩⟩
    | exit id => exact ⟨n, Option.bind_eq_some_iff.2 ⟨(.exit id, s'), hn, h2⟩⟩
    | ret => exact ⟨n, Option.bind_eq_some_iff.2 ⟨(.ret, s'), hn, h2⟩⟩
  · rintro ⟨n, h⟩
    obtain ⟨⟨x, s'⟩, h1, h2⟩ := Option.bind_eq_some_iff.1 h
    refine Option.bind_eq_some_iff.2 ⟨(x, s'), (code_some P cfg).2 ⟨n, h1⟩, ?_⟩
    cases x with
    | normal => exact (code_some P cfg).2 ⟨n, h2⟩
    | exit id => exact h2
    | ret => exact h2
theorem code_cond_true (fid : Nat) (c : Operand) (a b : Code) (s : St) (h : opd s.1 c = .v (.bool true)) : code P cfg fid (.cond c a b) s = code P cfg fid a s := by
  unfold code; simp [crun, h]
theorem code_cond_false (fid : Nat) (c : Operand) (a b : Code) (s : St) (h : opd s.1 c = .v (.bool false)) : code P cfg fid (.cond c a b) s = code P cfg fid b s := by
  unfold code; simp [crun, h]
theorem code_block (fid id : Nat) (c : Code) (s : St) : code P cfg fid (.block id c) s = (code P cfg fid c s).map (outOf id) := by
  refine lim_ext (code_rise P cfg fid _ s) fun r => ?_
  constructor
  · intro h
    obtain ⟨x, h1, rfl⟩ := Option.map_eq_some_iff.1 h
    obtain ⟨n, hn⟩ := (code_some P cfg).1 h1
    exact ⟨n, by simp [crun, hn]⟩
  · rintro ⟨n, h⟩
    obtain ⟨x, h1, rfl⟩ := Option.map_eq_some_iff.1 h
    rw [(code_some P cfg).2 ⟨n, h1⟩]; rfl
theorem code_loop (fid : Nat) (c : Code) (s : St) : code P cfg fid (.loop c) s = (code P cfg fid c s).bind (thenN (code P cfg fid (.loop c))) := by
  refine lim_ext (code_rise P cfg fid _ s) fun r => ?_
  constructor
  · intro h
    obtain ⟨⟨x, s'⟩, h1, h2⟩ := Option.bind_eq_some_iff.1 h
    obtain ⟨n, hn⟩ := (code_some P cfg).1 h1
    cases x with
    | normal =>
      obtain ⟨m, hm⟩ := (code_some P cfg).1 h2
      refine ⟨max n m + 1, Option.bind_eq_some_iff.2 ⟨(.normal, s'), code_rise P cfg fid c s _ _ (by omega) _ hn, ?_⟩⟩
      exact iter_mono (fun s => crun_mono (callN_le cfg (by omega : m ≤ max n m + 1)) _ (by omega) c s) m (max n m) s' (Nat.le_max_right n m) _ hm
    | exit id => exact ⟨n + 1, Option.bind_eq_some_iff.2 ⟨(.exit id, s'), code_rise P cfg fid c s _ _ (Nat.le_succ n) _ hn, h2⟩⟩
    | ret => exact ⟨n + 1, Option.bind_eq_some_iff.2 ⟨(.ret, s'), code_rise P cfg fid c s _ _ (Nat.le_succ n) _ hn, h2⟩⟩
  · rintro ⟨n, h⟩
    cases n with
    | zero => simp [crun, iter] at h
    | succ n =>
      obtain ⟨⟨x, s'⟩, h1, h2⟩ := Option.bind_eq_some_iff.1 h
      refine Option.bind_eq_some_iff.2 ⟨(x, s'), (code_some P cfg).2 ⟨n + 1, h1⟩, ?_⟩
      cases x with
      | normal => exact (code_some P cfg).2 ⟨n + 1, iter_mono (fun s => LeO.refl _) n (n + 1) s' (Nat.le_succ n) _ h2⟩
      | exit id => exact h2
      | ret => exact h2

/-- A function's body on its arguments. -/
noncomputable def body (fid : Nat) (fn : Func) (as : List AV) (H : Hp) : Option (AV × Hp) :=
  (code P cfg fid (codeOf fn) (envOf as, H)).bind (finish P fn)
theorem body_some {fid : Nat} {fn : Func} {as : List AV} {H : Hp} {r : AV × Hp} : body P cfg fid fn as H = some r ↔ ∃ n, brun P (cfg.pol fid) (callN P cfg n) n fn as H = some r := by
  unfold body brun
  constructor
  · intro h
    obtain ⟨x, h1, h2⟩ := Option.bind_eq_some_iff.1 h
    obtain ⟨n, hn⟩ := (code_some P cfg).1 h1
    exact ⟨n, Option.bind_eq_some_iff.2 ⟨x, hn, h2⟩⟩
  · rintro ⟨n, h⟩
    obtain ⟨x, h1, h2⟩ := Option.bind_eq_some_iff.1 h
    exact Option.bind_eq_some_iff.2 ⟨x, (code_some P cfg).2 ⟨n, h1⟩, h2⟩

/-- What a function gives on values that are only read. -/
noncomputable def pure (fid : Nat) (fn : Func) (ts : List AV) : Option (AV × Bool) :=
  (body P cfg fid fn ts Hp.nil).bind fun r => (deep r.2 depthD r.1).map fun t => (t, clean r.2 depthD r.1)

theorem call_rawf {f : Nat} {fn : Func} (hf : P.funcs[f]? = some fn) (hq : cfg.prim f = none) (ho : fnOk P cfg f fn = true) (hr : cfg.raw f = true) (p : Nat) (as : List AV) (H : Hp) :
    call P cfg p f as H = (body P cfg f fn as H).bind (frzN (cfg.frz f) H) := by
  refine lim_ext (call_rise P cfg p f as H) fun r => ?_
  constructor
  · intro h
    obtain ⟨x, h1, h2⟩ := Option.bind_eq_some_iff.1 h
    obtain ⟨n, hn⟩ := (body_some P cfg).1 h1
    exact ⟨n + 1, by simp [callN, hf, hq, ho, hr, hn, h2]⟩
  · rintro ⟨n, h⟩
    cases n with
    | zero => simp [callN] at h
    | succ n =>
      simp only [callN, hf, hq, Option.bind_some, ho, if_true, hr] at h
      obtain ⟨x, h1, h2⟩ := Option.bind_eq_some_iff.1 h
      exact Option.bind_eq_some_iff.2 ⟨x, (body_some P cfg).2 ⟨n, h1⟩, h2⟩
theorem call_raw {f : Nat} {fn : Func} (hf : P.funcs[f]? = some fn) (hq : cfg.prim f = none) (ho : fnOk P cfg f fn = true) (hr : cfg.raw f = true) (hz : cfg.frz f = false) (p : Nat) (as : List AV) (H : Hp) :
    call P cfg p f as H = body P cfg f fn as H := by
  rw [call_rawf P cfg hf hq ho hr]
  cases body P cfg f fn as H with
  | none => rfl
  | some r => simp [frzN, hz]
theorem call_primG {f : Nat} {fn : Func} (hf : P.funcs[f]? = some fn) {g : List AV → Option (AV × Bool)} (hq : cfg.prim f = some g) (ho : fnHas fn = true) (hr : cfg.raw f = false) (p : Nat) (as : List AV) (H : Hp) :
    call P cfg p f as H = (as.mapM (deep H depthD)).bind fun ts => (g ts).bind fun r => if p = 1 then (if cfg.own f = true then mat depthD r.1 H else none) else pureAt H (as.any (hasRefs depthD)) r := by
  refine lim_ext (call_rise P cfg p f as H) fun r => ?_
  constructor
  · intro h
    refine ⟨1, ?_⟩
    simp only [callN, hf, hq, Option.bind_some]
    rw [if_pos ⟨ho, hr⟩]; exact h
  · rintro ⟨n, h⟩
    cases n with
    | zero => simp [callN] at h
    | succ n =>
      simp only [callN, hf, hq, Option.bind_some] at h
      rw [if_pos ⟨ho, hr⟩] at h; exact h
theorem call_prim {f : Nat} {fn : Func} (hf : P.funcs[f]? = some fn) {g : List AV → Option (AV × Bool)} (hq : cfg.prim f = some g) (ho : fnHas fn = true) (hr : cfg.raw f = false) {p : Nat} (hp : p ≠ 1) (as : List AV) (H : Hp) :
    call P cfg p f as H = (as.mapM (deep H depthD)).bind fun ts => (g ts).bind (pureAt H (as.any (hasRefs depthD))) := by
  rw [call_primG P cfg hf hq ho hr]
  simp only [if_neg hp]
/-- What a function gives on values that are only read, where all of it lies in own blocks, each once. -/
noncomputable def owned (fid : Nat) (fn : Func) (ts : List AV) : Option AV :=
  (body P cfg fid fn ts Hp.nil).bind fun r => (fpt r.2 depthD r.1).bind fun fp => if fp.Nodup then deep r.2 depthD r.1 else none
theorem call_own {f : Nat} {fn : Func} (hf : P.funcs[f]? = some fn) (hq : cfg.prim f = none) (ho : fnOk P cfg f fn = true) (hr : cfg.raw f = false) (as : List AV) (H : Hp) :
    call P cfg 1 f as H = (as.mapM (deep H depthD)).bind fun ts => (owned P cfg f fn ts).bind fun t => mat depthD t H := by
  refine lim_ext (call_rise P cfg 1 f as H) fun r => ?_
  constructor
  · intro h
    obtain ⟨ts, h1, h⟩ := Option.bind_eq_some_iff.1 h
    obtain ⟨t, h2, h3⟩ := Option.bind_eq_some_iff.1 h
    obtain ⟨y, h4, h5⟩ := Option.bind_eq_some_iff.1 h2
    obtain ⟨n, hn⟩ := (body_some P cfg).1 h4
    refine ⟨n + 1, ?_⟩
    simp only [callN, hf, hq, Option.bind_some, ho, if_true, hr, Bool.false_eq_true, if_false]
    refine Option.bind_eq_some_iff.2 ⟨ts, h1, ?_⟩
    exact Option.bind_eq_some_iff.2 ⟨t, Option.bind_eq_some_iff.2 ⟨y, hn, h5⟩, h3⟩
  · rintro ⟨n, h⟩
    cases n with
    | zero => simp [callN] at h
    | succ n =>
      simp only [callN, hf, hq, Option.bind_some, ho, if_true, hr, Bool.false_eq_true, if_false] at h
      obtain ⟨ts, h1, h⟩ := Option.bind_eq_some_iff.1 h
      obtain ⟨t, h2, h3⟩ := Option.bind_eq_some_iff.1 h
      obtain ⟨y, h4, h5⟩ := Option.bind_eq_some_iff.1 h2
      exact Option.bind_eq_some_iff.2 ⟨ts, h1, Option.bind_eq_some_iff.2 ⟨t, Option.bind_eq_some_iff.2 ⟨y, (body_some P cfg).2 ⟨n, h4⟩, h5⟩, h3⟩⟩
theorem call_pure {f : Nat} {fn : Func} (hf : P.funcs[f]? = some fn) (hq : cfg.prim f = none) (ho : fnOk P cfg f fn = true) (hr : cfg.raw f = false) {p : Nat} (hp : p ≠ 1) (as : List AV) (H : Hp) :
    call P cfg p f as H = (as.mapM (deep H depthD)).bind fun ts => (pure P cfg f fn ts).bind (pureAt H (as.any (hasRefs depthD))) := by
  refine lim_ext (call_rise P cfg p f as H) fun r => ?_
  constructor
  · intro h
    obtain ⟨ts, h1, h⟩ := Option.bind_eq_some_iff.1 h
    obtain ⟨x, h2, h3⟩ := Option.bind_eq_some_iff.1 h
    obtain ⟨y, h4, h5⟩ := Option.bind_eq_some_iff.1 h2
    obtain ⟨n, hn⟩ := (body_some P cfg).1 h4
    refine ⟨n + 1, ?_⟩
    simp only [callN, hf, hq, Option.bind_some, ho, if_true, hr, Bool.false_eq_true, if_false]
    refine Option.bind_eq_some_iff.2 ⟨ts, h1, ?_⟩
    rw [if_neg hp]
    exact Option.bind_eq_some_iff.2 ⟨x, Option.bind_eq_some_iff.2 ⟨y, hn, h5⟩, h3⟩
  · rintro ⟨n, h⟩
    cases n with
    | zero => simp [callN] at h
    | succ n =>
      simp only [callN, hf, hq, Option.bind_some, ho, if_true, hr, Bool.false_eq_true, if_false] at h
      obtain ⟨ts, h1, h⟩ := Option.bind_eq_some_iff.1 h
      rw [if_neg hp] at h
      obtain ⟨x, h2, h3⟩ := Option.bind_eq_some_iff.1 h
      obtain ⟨y, h4, h5⟩ := Option.bind_eq_some_iff.1 h2
      exact Option.bind_eq_some_iff.2 ⟨ts, h1, Option.bind_eq_some_iff.2 ⟨x, Option.bind_eq_some_iff.2 ⟨y, (body_some P cfg).2 ⟨n, h4⟩, h5⟩, h3⟩⟩
end
end Go.Proofs.YtnejoidfbgklbaaGreatDoor.Eng
