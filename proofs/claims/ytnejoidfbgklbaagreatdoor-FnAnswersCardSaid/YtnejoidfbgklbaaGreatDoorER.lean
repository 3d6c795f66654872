/- The engine, part 30: numbers as texts and back (strconv), by laws from elsewhere. The engine, part 31: results in own blocks, and marks in them. The engine, part 32: values that lie in own blocks one behind the other. The engine, part 33: functions that write into laid values. The engine, part 34: appends to lists of bytes; literals of three to six elements; results with own parts. The engine, part 35: lists of laid rows that are being gathered. The engine, part 36: late reads on a kept heap. The engine, part 37: texts that a function of the library makes, as own results. -/
import Derived.Test.YtnejoidfbgklbaaGreatDoorEQ
import Derived.Lib.ItoaNum
import Derived.Lib.AtoiAll
import Derived.Lib.AtoiAllCases
import Derived.Lib.ParseIntB
import Derived.Lib.AtoiErrMem
import Derived.Lib.AppendIntMem
namespace Go.Proofs.YtnejoidfbgklbaaGreatDoor.Eng
open Go Go.RowKit
set_option linter.unusedSimpArgs false
set_option linter.unusedVariables false

section
variable {P : Program} {F : Nat → Nat → Prop} {w : World} {ρ : Nat → Loc}
def itoaT (n : Int) : AV := .v (.string ⟨(Lib.itoa n).toArray⟩)
def i64B (n : Int) : Prop := -9223372036854775808 ≤ n ∧ n ≤ 9223372036854775807
instance (n : Int) : Decidable (i64B n) := inferInstanceAs (Decidable (_ ∧ _))
def itoaG : List AV → Option (AV × Bool)
  | [.v (.int .i64 n)] => if i64B n then some (itoaT n, true) else none
  | _ => none
def fmtG : List AV → Option (AV × Bool)
  | [.v (.int .i64 n), .v (.int .i64 10)] => if i64B n then some (itoaT n, true) else none
  | _ => none
/-- How a text's reading ends: the number, and whether there is an error. -/
def endT (sat : Int) : Lib.NumEnd Int → AV
  | .ok v => .tup [.v (.int .i64 v), .ifc false]
  | Lib.NumEnd.syntax => .tup [.v (.int .i64 0), .ifc true]
  | .range => .tup [.v (.int .i64 sat), .ifc true]
def atoiG : List AV → Option (AV × Bool)
  | [.v (.string s)] => if s.size ≤ 281474976710656 then some (endT (Lib.atoiSat s.data.toList) (Lib.atoiAll s.data.toList), true) else none
  | _ => none
def Post (P : Program) (f : Nat) (vals : Array Value) (ρ : Nat → Loc) (F : Nat → Nat → Prop) (w : World) (v : AV) (cl : Bool) : Prop :=
  Calls P f vals w fun e w' => ∃ u F', e = .returned u ∧ After w.heap.size Hp.nil ρ F w Hp.nil ρ F' w' ∧ VR Hp.nil ρ F' w' v u ∧ (cl = true → VR Hp.nil ρ (fun k o => F' k o ∧ w.heap.size ≤ k) w' v u)
theorem post_of {f : Nat} {vals : Array Value} {v : AV} {cl : Bool} (I : Inv w.heap.size Hp.nil ρ F w)
    (h : Calls P f vals w fun e w' => ∃ u, e = .returned u ∧ Below w.heap.size w w' ∧ ∀ F w, VR Hp.nil ρ F w v u) : Post P f vals ρ F w v cl :=
  h.mono fun e w' ⟨u, he, hb, hv⟩ => ⟨u, _, he, back_ok I hb, hv _ _, fun _ => hv _ _⟩
theorem vals1 {vals : Array Value} {x : Value} (hl : [AV.v x].length = vals.size) (hv : ∀ (i : Nat) a y, [AV.v x][i]? = some a → vals[i]? = some y → VR Hp.nil ρ F w a y) : vals = #[x] := by
  obtain ⟨l⟩ := vals
  match l, hl with
  | [y], _ =>
    have := hv 0 _ y rfl rfl
    cases this; rfl
theorem vals2 {vals : Array Value} {x x2 : Value} (hl : [AV.v x, AV.v x2].length = vals.size) (hv : ∀ (i : Nat) a y, [AV.v x, AV.v x2][i]? = some a → vals[i]? = some y → VR Hp.nil ρ F w a y) : vals = #[x, x2] := by
  obtain ⟨l⟩ := vals
  match l, hl with
  | [y, y2], _ =>
    have h1 := hv 0 _ y rfl rfl
    have h2 := hv 1 _ y2 rfl rfl
    cases h1; cases h2; rfl
theorem itoa_ok {f : Nat} (law : ∀ (n : Int) (w : World), i64B n → Tab w.heap.size w → Calls P f #[.int .i64 n] w fun e w' => e = .returned (.string ⟨(Lib.itoa n).toArray⟩) ∧ ∃ k os, w' = Go.Sort.grow (w.drewN k) os)
    {ts : List AV} {v : AV} {cl : Bool} (hg : itoaG ts = some (v, cl)) {vals : Array Value} (I : Inv w.heap.size Hp.nil ρ F w) (hl : ts.length = vals.size) (hv : ∀ (i : Nat) x y, ts[i]? = some x → vals[i]? = some y → VR Hp.nil ρ F w x y) : Post P f vals ρ F w v cl := by
  unfold itoaG at hg
  split at hg
  rotate_left
  · simp at hg
  split at hg
  rotate_left
  · simp at hg
  rename_i n hn
  simp only [Option.some.injEq, Prod.mk.injEq] at hg
  obtain ⟨rfl, rfl⟩ := hg
  obtain rfl := vals1 hl hv
  refine post_of I ((law n w hn I.tab).mono ?_)
  rintro e w' ⟨rfl, k, os, rfl⟩
  exact ⟨_, rfl, Lib.below_grow _ w (Nat.le_refl _) k os, fun _ _ => .v⟩
theorem fmt_ok {f : Nat} (law : ∀ (n : Int) (w : World), i64B n → Tab w.heap.size w → Calls P f #[.int .i64 n, .int .i64 10] w fun e w' => e = .returned (.string ⟨(Lib.itoa n).toArray⟩) ∧ ∃ k os, w' = Go.Sort.grow (w.drewN k) os)
    {ts : List AV} {v : AV} {cl : Bool} (hg : fmtG ts = some (v, cl)) {vals : Array Value} (I : Inv w.heap.size Hp.nil ρ F w) (hl : ts.length = vals.size) (hv : ∀ (i : Nat) x y, ts[i]? = some x → vals[i]? = some y → VR Hp.nil ρ F w x y) : Post P f vals ρ F w v cl := by
  unfold fmtG at hg
  split at hg
  rotate_left
  · simp at hg
  split at hg
  rotate_left
  · simp at hg
  rename_i n hn
  simp only [Option.some.injEq, Prod.mk.injEq] at hg
  obtain ⟨rfl, rfl⟩ := hg
  obtain rfl := vals2 hl hv
  refine post_of I ((law n w hn I.tab).mono ?_)
  rintro e w' ⟨rfl, k, os, rfl⟩
  exact ⟨_, rfl, Lib.below_grow _ w (Nat.le_refl _) k os, fun _ _ => .v⟩
theorem vr_end0 {n : Int} : VR Hp.nil ρ F w (.tup [.v (.int .i64 n), .ifc false]) (.tuple #[.int .i64 n, .nilIface]) := by
  refine .tup rfl fun i x y hx hy => ?_
  match i with
  | 0 => simp at hx hy; subst hx hy; exact .v
  | 1 => simp at hx hy; subst hx hy; exact .ifc0
  | i + 2 => simp at hx
theorem vr_end1 {n : Int} {t : TypeId} {p : Value} : VR Hp.nil ρ F w (.tup [.v (.int .i64 n), .ifc true]) (.tuple #[.int .i64 n, .iface t p]) := by
  refine .tup rfl fun i x y hx hy => ?_
  match i with
  | 0 => simp at hx hy; subst hx hy; exact .v
  | 1 => simp at hx hy; subst hx hy; exact .ifc1
  | i + 2 => simp at hx
theorem numEnd_cases {α : Type} (r : Lib.NumEnd α) : (∃ v, r = .ok v) ∨ r = Lib.NumEnd.syntax ∨ r = .range := by cases r <;> simp
/-- What is asked of a reading of numbers, by how it ends. -/
def EndLaw (P : Program) (f : Nat) (vals : Array Value) (w : World) (sat : Int) (r : Lib.NumEnd Int) : Prop :=
  Calls P f vals w fun e w' => Below w.heap.size w w' ∧ match r with
    | .ok v => e = .returned (.tuple #[.int .i64 v, .nilIface])
    | Lib.NumEnd.syntax => ∃ t p, e = .returned (.tuple #[.int .i64 0, .iface t p])
    | .range => ∃ t p, e = .returned (.tuple #[.int .i64 sat, .iface t p])
theorem end_ok {f : Nat} {vals : Array Value} {sat : Int} {r : Lib.NumEnd Int} {cl : Bool} (I : Inv w.heap.size Hp.nil ρ F w) (h : EndLaw P f vals w sat r) : Post P f vals ρ F w (endT sat r) cl := by
  refine post_of I (h.mono ?_)
  rintro e w' ⟨hb, he⟩
  rcases numEnd_cases r with ⟨v, rfl⟩ | rfl | rfl
  · subst he; exact ⟨_, rfl, hb, fun _ _ => vr_end0⟩
  · obtain ⟨t, p, rfl⟩ := he; exact ⟨_, rfl, hb, fun _ _ => vr_end1⟩
  · obtain ⟨t, p, rfl⟩ := he; exact ⟨_, rfl, hb, fun _ _ => vr_end1⟩
theorem atoi_ok {f : Nat} (law : ∀ (s : ByteArray) (w : World), s.size ≤ 281474976710656 → Tab w.heap.size w → EndLaw P f #[.string s] w (Lib.atoiSat s.data.toList) (Lib.atoiAll s.data.toList))
    {ts : List AV} {v : AV} {cl : Bool} (hg : atoiG ts = some (v, cl)) {vals : Array Value} (I : Inv w.heap.size Hp.nil ρ F w) (hl : ts.length = vals.size) (hv : ∀ (i : Nat) x y, ts[i]? = some x → vals[i]? = some y → VR Hp.nil ρ F w x y) : Post P f vals ρ F w v cl := by
  unfold atoiG at hg
  split at hg
  rotate_left
  · simp at hg
  split at hg
  rotate_left
  · simp at hg
  rename_i s hs
  simp only [Option.some.injEq, Prod.mk.injEq] at hg
  obtain ⟨rfl, rfl⟩ := hg
  obtain rfl := vals1 hl hv
  exact end_ok I (law s w hs I.tab)
end
end Go.Proofs.YtnejoidfbgklbaaGreatDoor.Eng
namespace Go.Proofs.YtnejoidfbgklbaaGreatDoor.Eng
open Go
set_option linter.unusedSimpArgs false
set_option linter.unusedVariables false

theorem Hp.set_id {H : Hp} {b : Nat} {x : List AV} (h : H.h b = some x) : H.set b x = H := by
  unfold Hp.set
  cases H with
  | mk h' g' =>
    simp only [Hp.mk.injEq, and_true]
    funext b'
    by_cases e : b' = b
    · subst e; simpa using h.symm
    · rw [if_neg e]
theorem mat_v (d : Nat) (y : Value) (H : Hp) : mat (d + 1) (.v y) H = some (.v y, H) := rfl
theorem mat_nil (d : Nat) (fu : Bool) (H : Hp) : mat (d + 1) (.lst fu []) H = some (.lst false [], H) := rfl
theorem mat_lst (d : Nat) (fu : Bool) (r : List AV) (rs : List (List AV)) (H : Hp) : mat (d + 1) (.lst fu (r :: rs)) H = if 0 < r.length ∧ rs.all (fun c => decide (c.length = r.length)) = true then (matL (mat d) (r :: rs).flatten H).map fun q => (.sl q.2.g r.length 0 (rs.length + 1), q.2.new q.1) else none := rfl
theorem mat_agg (d : Nat) (cs : List AV) (H : Hp) : mat (d + 1) (.agg cs) H = (matL (mat d) cs H).map fun q => (.agg q.1, q.2) := rfl
/-- Plain cells go over as they are. -/
theorem matL_v (d : Nat) (H : Hp) : ∀ cs : List Value, matL (mat (d + 1)) (cs.map .v) H = some (cs.map .v, H) := by
  intro cs
  induction cs with
  | nil => rfl
  | cons c cs ih => simp only [List.map_cons, matL, mat_v, Option.bind_some, ih, Option.map_some]
/-- A list of rows of one plain cell each. -/
theorem mat_flat {α : Type} (f : α → Value) (d : Nat) (l : List α) (hne : l ≠ []) (H : Hp) : mat (d + 2) (.lst false (l.map fun z => [AV.v (f z)])) H = some (.sl H.g 1 0 l.length, H.new (l.map fun z => AV.v (f z))) := by
  cases l with
  | nil => exact absurd rfl hne
  | cons a l =>
    have e : ((a :: l).map fun z => [AV.v (f z)]).flatten = ((a :: l).map f).map .v := by
      generalize a :: l = k
      induction k with
      | nil => rfl
      | cons a l ih => simp only [List.map_cons, List.flatten_cons, ih, List.singleton_append]
    simp only [List.map_cons] at e ⊢
    rw [mat_lst, e, if_pos]
    rotate_left
    · refine ⟨by simp, List.all_eq_true.2 fun c hc => ?_⟩
      obtain ⟨z, -, rfl⟩ := List.mem_map.1 hc
      simp
    have := matL_v d H (f a :: l.map f)
    simp only [List.map_cons] at this
    rw [this]
    simp [Function.comp_def]
theorem mat_bytes (d : Nat) (l : List Int) (hne : l ≠ []) (H : Hp) : mat (d + 2) (bytesL l) H = some (.sl H.g 1 0 l.length, H.new (l.map cell)) := mat_flat (fun z => .int .u8 z) d l hne H
/-- A struct of a number and a list. -/
theorem mat_two {d : Nat} {y : Value} {t z : AV} {H K : Hp} (h : mat (d + 1) t H = some (z, K)) : mat (d + 2) (.agg [.v y, t]) H = some (.agg [.v y, z], K) := by
  simp only [mat_agg, matL, mat_v, Option.bind_some, h, Option.map_some]
theorem own_agg2 {y : Value} {x : AV} {H : Hp} (h : ∃ fp, fpt H 11 x = some fp ∧ fp.Nodup) : Own1 H (.agg [.v y, x]) := by
  obtain ⟨fp, h1, h2⟩ := h
  refine ⟨fp, ?_, h2⟩
  show ([AV.v y, x].mapM (fpt H 11)).map List.flatten = some fp
  have hm : [AV.v y, x].mapM (fpt H 11) = some [[], fp] := mapM_cons_some.2 ⟨_, _, rfl, mapM_cons_some.2 ⟨_, _, h1, rfl, rfl⟩, rfl⟩
  rw [hm]
  simp
end Go.Proofs.YtnejoidfbgklbaaGreatDoor.Eng
namespace Go.Proofs.YtnejoidfbgklbaaGreatDoor.Eng
open Go
set_option linter.unusedSimpArgs false
set_option linter.unusedVariables false

/-- The cells zs stand for ts; their lists lie in the blocks from lo on, below hi, in this order. -/
inductive Laid (H : Hp) : Nat → Nat → List AV → List AV → Prop
  | nil {lo hi : Nat} (h : lo ≤ hi) : Laid H lo hi [] []
  | v {lo hi : Nat} {ts zs : List AV} (y : Value) (h : Laid H lo hi ts zs) : Laid H lo hi (.v y :: ts) (.v y :: zs)
  | nl {lo hi : Nat} {ts zs : List AV} (h : Laid H lo hi ts zs) : Laid H lo hi (.lst false [] :: ts) (.lst false [] :: zs)
  | lst {lo b hi sz n : Nat} {rows : List (List AV)} {cs ts zs : List AV} (hne : rows ≠ []) (hn : n = rows.length) (hsz : 0 < sz) (hs : ∀ c ∈ rows, c.length = sz) (hi1 : Laid H lo b rows.flatten cs) (hb : H.h b = some cs) (h : Laid H (b + 1) hi ts zs) :
      Laid H lo hi (.lst false rows :: ts) (.sl b sz 0 n :: zs)

variable {H H' : Hp} {lo hi : Nat} {ts zs : List AV}
theorem Laid.le (h : Laid H lo hi ts zs) : lo ≤ hi := by
  induction h with
  | nil h => exact h
  | v y h ih => exact ih
  | nl h ih => exact ih
  | lst hne hn hsz hs hi1 hb h ih1 ih2 => omega
theorem Laid.len (h : Laid H lo hi ts zs) : zs.length = ts.length := by
  induction h with
  | nil h => rfl
  | v y h ih => simp [ih]
  | nl h ih => simp [ih]
  | lst hne hn hsz hs hi1 hb h ih1 ih2 => simp [ih2]
theorem Laid.keep (h : Laid H lo hi ts zs) (hk : ∀ b, lo ≤ b → b < hi → H'.h b = H.h b) : Laid H' lo hi ts zs := by
  induction h with
  | nil h => exact .nil h
  | v y h ih => exact .v y (ih hk)
  | nl h ih => exact .nl (ih hk)
  | lst hne hn hsz hs hi1 hb h ih1 ih2 =>
    have l1 := hi1.le
    have l2 := h.le
    exact .lst hne hn hsz hs (ih1 fun b h1 h2 => hk b h1 (by omega)) ((hk _ l1 (by omega)).trans hb) (ih2 fun b h1 h2 => hk b (by omega) h2)
theorem Laid.low {lo' : Nat} (h : Laid H lo hi ts zs) (hl : lo' ≤ lo) : Laid H lo' hi ts zs := by
  induction h with
  | nil h => exact .nil (by omega)
  | v y h ih => exact .v y (ih hl)
  | nl h ih => exact .nl (ih hl)
  | lst hne hn hsz hs hi1 hb h ih1 ih2 => exact .lst hne hn hsz hs (ih1 hl) hb h
theorem Laid.high {hi' : Nat} (h : Laid H lo hi ts zs) (hl : hi ≤ hi') : Laid H lo hi' ts zs := by
  induction h with
  | nil h => exact .nil (by omega)
  | v y h ih => exact .v y (ih hl)
  | nl h ih => exact .nl (ih hl)
  | lst hne hn hsz hs hi1 hb h ih1 ih2 => exact .lst hne hn hsz hs hi1 hb (ih2 hl)
theorem Laid.app {mid : Nat} {ts' zs' : List AV} (h : Laid H lo mid ts zs) (h2 : Laid H mid hi ts' zs') : Laid H lo hi (ts ++ ts') (zs ++ zs') := by
  induction h with
  | nil h => exact h2.low h
  | v y h ih => exact .v y (ih h2)
  | nl h ih => exact .nl (ih h2)
  | lst hne hn hsz hs hi1 hb h ih1 ih2 => exact .lst hne hn hsz hs hi1 hb (ih2 h2)
theorem Laid.split : ∀ (ts : List AV) {lo : Nat} {ts' zs : List AV}, Laid H lo hi (ts ++ ts') zs → ∃ mid zs1 zs2, zs = zs1 ++ zs2 ∧ Laid H lo mid ts zs1 ∧ Laid H mid hi ts' zs2 := by
  intro ts
  induction ts with
  | nil => intro lo ts' zs h; exact ⟨lo, [], zs, rfl, .nil (Nat.le_refl _), h⟩
  | cons t ts ih =>
    intro lo ts' zs h
    simp only [List.cons_append] at h
    cases h with
    | v y h =>
      obtain ⟨mid, z1, z2, rfl, h1, h2⟩ := ih h
      exact ⟨mid, _ :: z1, z2, rfl, .v y h1, h2⟩
    | nl h =>
      obtain ⟨mid, z1, z2, rfl, h1, h2⟩ := ih h
      exact ⟨mid, _ :: z1, z2, rfl, .nl h1, h2⟩
    | lst hne hn hsz hs hi1 hb h =>
      obtain ⟨mid, z1, z2, rfl, h1, h2⟩ := ih h
      exact ⟨mid, _ :: z1, z2, rfl, .lst hne hn hsz hs hi1 hb h1, h2⟩

/-- A plain value reads as it stands. -/
def Plain (y : Value) : Prop := ∀ (H : Hp) (d : Nat), deep H (d + 1) (.v y) = some (.v y)
theorem plain_int (k : IntKind) (z : Int) : Plain (.int k z) := fun _ _ => rfl
theorem plain_bool (b : Bool) : Plain (.bool b) := fun _ _ => rfl
theorem plain_string (s : ByteArray) : Plain (.string s) := fun _ _ => rfl
/-- Plain cells, and lists of rows of such, to a depth of n. -/
def MatG : Nat → AV → Prop
  | 0, _ => False
  | n + 1, x => (∃ y, x = .v y ∧ Plain y) ∨ (∃ xs sz, x = .lst false xs ∧ 0 < sz ∧ ∀ c ∈ xs, c.length = sz ∧ ∀ a ∈ c, MatG n a)
theorem MatG.int (n : Nat) (k : IntKind) (z : Int) : MatG (n + 1) (.v (.int k z)) := .inl ⟨_, rfl, plain_int k z⟩
theorem MatG.bool (n : Nat) (b : Bool) : MatG (n + 1) (.v (.bool b)) := .inl ⟨_, rfl, plain_bool b⟩
theorem MatG.string (n : Nat) (s : ByteArray) : MatG (n + 1) (.v (.string s)) := .inl ⟨_, rfl, plain_string s⟩
theorem MatG.rows {α : Type} {enc : α → List AV} {n sz : Nat} (hsz : 0 < sz) (hl : ∀ k, (enc k).length = sz) (h : ∀ k, ∀ x ∈ enc k, MatG n x) (l : List α) : MatG (n + 1) (.lst false (l.map enc)) := by
  refine .inr ⟨_, sz, rfl, hsz, fun c hc => ?_⟩
  obtain ⟨k, -, rfl⟩ := List.mem_map.1 hc
  exact ⟨hl k, h k⟩
theorem MatG.bytes (n : Nat) (l : List Int) : MatG (n + 2) (bytesL l) := MatG.rows (sz := 1) (by omega) (fun _ => rfl) (fun z x hx => by simp only [List.mem_singleton] at hx; subst hx; exact MatG.int n _ _) l
theorem MatG.texts (n : Nat) (l : List ByteArray) : MatG (n + 2) (textsL l) := MatG.rows (sz := 1) (by omega) (fun _ => rfl) (fun z x hx => by simp only [List.mem_singleton] at hx; subst hx; exact MatG.string n _) l

theorem chunk_flat' (sz : Nat) (xs : List (List AV)) (hs : ∀ c ∈ xs, c.length = sz) : chunk sz xs.length xs.flatten = xs := chunk_flat sz xs hs
/-- What laid cells read as, and where they lie. -/
theorem Laid.deep (h : Laid H lo hi ts zs) : ∀ n d, (∀ t ∈ ts, MatG n t) → n ≤ d → zs.mapM (Eng.deep H d) = some ts ∧ ∃ fps, zs.mapM (fpt H d) = some fps ∧ fps.flatten.Nodup ∧ ∀ x ∈ fps.flatten, lo ≤ x ∧ x < hi := by
  induction h with
  | nil h => intro n d _ _; exact ⟨rfl, [], rfl, by simp, by simp⟩
  | @v lo hi ts zs y h ih =>
    intro n d hg hd
    obtain ⟨i1, fps, i2, i3, i4⟩ := ih n d (fun t ht => hg t (by simp [ht])) hd
    have g0 := hg (.v y) (by simp)
    cases n with
    | zero => exact absurd g0 (by simp [MatG])
    | succ n =>
      obtain ⟨d, rfl⟩ : ∃ e, d = e + 1 := ⟨d - 1, by omega⟩
      have hp : Plain y := by
        rcases g0 with ⟨y', e, hp⟩ | ⟨xs, sz, e, -⟩
        · cases e; exact hp
        · cases e
      exact ⟨mapM_cons_some.2 ⟨_, _, hp H d, i1, rfl⟩, [] :: fps, mapM_cons_some.2 ⟨_, _, rfl, i2, rfl⟩, by simpa using i3, by simpa using i4⟩
  | @nl lo hi ts zs h ih =>
    intro n d hg hd
    obtain ⟨i1, fps, i2, i3, i4⟩ := ih n d (fun t ht => hg t (by simp [ht])) hd
    have g0 := hg (.lst false []) (by simp)
    cases n with
    | zero => exact absurd g0 (by simp [MatG])
    | succ n =>
      obtain ⟨d, rfl⟩ : ∃ e, d = e + 1 := ⟨d - 1, by omega⟩
      exact ⟨mapM_cons_some.2 ⟨_, _, rfl, i1, rfl⟩, [] :: fps, mapM_cons_some.2 ⟨_, _, rfl, i2, rfl⟩, by simpa using i3, by simpa using i4⟩
  | @lst lo b hi sz n rows cs ts zs hne hn hsz hs hi1 hb h ih1 ih2 =>
    intro m d hg hd
    obtain ⟨i1, fps, i2, i3, i4⟩ := ih2 m d (fun t ht => hg t (by simp [ht])) hd
    have g0 := hg (.lst false rows) (by simp)
    cases m with
    | zero => exact absurd g0 (by simp [MatG])
    | succ m =>
      obtain ⟨d, rfl⟩ : ∃ e, d = e + 1 := ⟨d - 1, by omega⟩
      have hr : ∀ t ∈ rows.flatten, MatG m t := by
        intro t ht
        obtain ⟨c, hc, ht⟩ := List.mem_flatten.1 ht
        rcases g0 with ⟨y', e, -⟩ | ⟨xs, sz', e, -, hx⟩
        · cases e
        · cases e; exact (hx c hc).2 t ht
      obtain ⟨j1, fq, j2, j3, j4⟩ := ih1 m d hr (by omega)
      have hl : cs.length = n * sz := by rw [hi1.len, flat_len sz rows hs, hn]
      have l1 := hi1.le
      have l2 := h.le
      have hn0 : n ≠ 0 := by rw [hn]; exact fun e => hne (List.length_eq_zero_iff.1 e)
      have htk : (cs.drop 0).take (n * sz) = cs := by rw [List.drop_zero, List.take_of_length_le (by omega)]
      refine ⟨mapM_cons_some.2 ⟨_, _, ?_, i1, rfl⟩, (b :: fq.flatten) :: fps, mapM_cons_some.2 ⟨_, _, ?_, i2, rfl⟩, ?_, ?_⟩
      · simp only [Eng.deep, hb, Option.bind_some]
        rw [if_pos ⟨by omega, hsz⟩, htk, j1]
        simp only [Option.map_some]
        rw [hn, chunk_flat' sz rows hs]
      · simp only [fpt, hb, Option.bind_some]
        rw [if_neg hn0, htk, j2]; rfl
      · simp only [List.flatten_cons, List.cons_append, List.nodup_cons, List.mem_append, not_or, List.nodup_append]
        refine ⟨⟨fun hm => ?_, fun hm => ?_⟩, j3, i3, fun a ha c hc => ?_⟩
        · have := j4 b hm; omega
        · have := i4 b hm; omega
        · have := j4 a ha; have := i4 c hc; omega
      · intro x hx
        simp only [List.flatten_cons, List.cons_append, List.mem_cons, List.mem_append] at hx
        rcases hx with rfl | hx | hx
        · omega
        · have := j4 x hx; omega
        · have := i4 x hx; omega

theorem mat_lay : ∀ n d, n ≤ d → ∀ (ts : List AV), (∀ t ∈ ts, MatG n t) → ∀ H : Hp, ∃ zs H', matL (mat d) ts H = some (zs, H') ∧ Ext H H' ∧ Laid H' H.g H'.g ts zs := by
  intro n
  induction n with
  | zero =>
    intro d hd ts hg H
    cases ts with
    | nil => exact ⟨[], H, rfl, .refl H, .nil (Nat.le_refl _)⟩
    | cons t ts => exact absurd (hg t (by simp)) (by simp [MatG])
  | succ n ih =>
    intro d hd ts
    obtain ⟨d, rfl⟩ : ∃ e, d = e + 1 := ⟨d - 1, by omega⟩
    induction ts with
    | nil => intro _ H; exact ⟨[], H, rfl, .refl H, .nil (Nat.le_refl _)⟩
    | cons t ts iht =>
      intro hg H
      rcases hg t (by simp) with ⟨y, rfl, hp⟩ | ⟨xs, sz, rfl, hsz, hx⟩
      · obtain ⟨zs, H', h1, h2, h3⟩ := iht (fun t ht => hg t (by simp [ht])) H
        exact ⟨.v y :: zs, H', by simp only [matL, mat_v, Option.bind_some, h1, Option.map_some], h2, .v y h3⟩
      · cases xs with
        | nil =>
          obtain ⟨zs, H', h1, h2, h3⟩ := iht (fun t ht => hg t (by simp [ht])) H
          exact ⟨.lst false [] :: zs, H', by simp only [matL, mat_nil, Option.bind_some, h1, Option.map_some], h2, .nl h3⟩
        | cons r rs =>
          have hr := hx r (by simp)
          obtain ⟨cs, H1, a1, a2, a3⟩ := ih d (by omega) (r :: rs).flatten (fun t ht => by
            obtain ⟨c, hc, ht⟩ := List.mem_flatten.1 ht
            exact (hx c hc).2 t ht) H
          obtain ⟨zs, H', h1, h2, h3⟩ := iht (fun t ht => hg t (by simp [ht])) (H1.new cs)
          have hcond : 0 < r.length ∧ rs.all (fun c => decide (c.length = r.length)) = true := by
            refine ⟨by omega, List.all_eq_true.2 fun c hc => ?_⟩
            simp [(hx c (by simp [hc])).1, hr.1]
          have e1 : Ext H (H1.new cs) := a2.new cs
          refine ⟨.sl H1.g r.length 0 (rs.length + 1) :: zs, H', ?_, e1.trans h2, ?_⟩
          · simp only [matL]
            rw [mat_lst, if_pos hcond, a1]
            simp only [Option.map_some, Option.bind_some, h1]
          · have hk : ∀ b, b < H1.g + 1 → H'.h b = (H1.new cs).h b := fun b hb => h2.2 b (by simpa using hb)
            have hle := a3.le
            refine .lst (by simp) (by simp) (by omega) (fun c hc => by rw [(hx c hc).1, hr.1]) (a3.keep (H' := H') fun b h1 h2 => ?_) ?_ ?_
            · rw [hk b (by omega), Hp.new_h, if_neg (by omega)]
            · rw [hk _ (by omega), Hp.new_h, if_pos rfl]
            · simpa using h3

theorem mat_ext : ∀ (d : Nat), (∀ (t : AV) (H : Hp) (z : AV) (H' : Hp), mat d t H = some (z, H') → Ext H H') ∧ ∀ (ts : List AV) (H : Hp) (zs : List AV) (H' : Hp), matL (mat d) ts H = some (zs, H') → Ext H H' := by
  have key : ∀ d, (∀ (t : AV) (H : Hp) (z : AV) (H' : Hp), mat d t H = some (z, H') → Ext H H') → ∀ (ts : List AV) (H : Hp) (zs : List AV) (H' : Hp), matL (mat d) ts H = some (zs, H') → Ext H H' := by
    intro d h1 ts
    induction ts with
    | nil => intro H zs H' h; simp only [matL, Option.some.injEq, Prod.mk.injEq] at h; obtain ⟨-, rfl⟩ := h; exact .refl H
    | cons t ts ih =>
      intro H zs H' h
      simp only [matL] at h
      obtain ⟨⟨z0, K2⟩, hm0, h⟩ := Option.bind_eq_some_iff.1 h
      obtain ⟨⟨zr, K3⟩, hmr, h⟩ := Option.map_eq_some_iff.1 h
      simp only [Prod.mk.injEq] at h
      obtain ⟨-, rfl⟩ := h
      exact (h1 t H z0 K2 hm0).trans (ih K2 zr K3 hmr)
  intro d
  induction d with
  | zero => exact ⟨fun t H z H' h => by simp [mat] at h, key 0 fun t H z H' h => by simp [mat] at h⟩
  | succ d ih =>
    have h1 : ∀ (t : AV) (H : Hp) (z : AV) (H' : Hp), mat (d + 1) t H = some (z, H') → Ext H H' := by
      intro t H z H' h
      unfold mat at h
      split at h
      · simp only [Option.some.injEq, Prod.mk.injEq] at h; obtain ⟨-, rfl⟩ := h; exact .refl H
      · simp only [Option.some.injEq, Prod.mk.injEq] at h; obtain ⟨-, rfl⟩ := h; exact .refl H
      · split at h
        · obtain ⟨⟨zs, K⟩, h2, h3⟩ := Option.map_eq_some_iff.1 h
          simp only [Prod.mk.injEq] at h3
          obtain ⟨-, rfl⟩ := h3
          exact (ih.2 _ _ _ _ h2).new _
        · exact absurd h (by simp)
      · obtain ⟨⟨zs, K⟩, h2, h3⟩ := Option.map_eq_some_iff.1 h
        simp only [Prod.mk.injEq] at h3
        obtain ⟨-, rfl⟩ := h3
        exact ih.2 _ _ _ _ h2
      · obtain ⟨⟨zs, K⟩, h2, h3⟩ := Option.map_eq_some_iff.1 h
        simp only [Prod.mk.injEq] at h3
        obtain ⟨-, rfl⟩ := h3
        exact ih.2 _ _ _ _ h2
      · exact absurd h (by simp)
    exact ⟨h1, key (d + 1) h1⟩
theorem mat_one {d n : Nat} (hd : n ≤ d) {t : AV} (hg : MatG n t) (H : Hp) : ∃ z H', mat d t H = some (z, H') ∧ Ext H H' ∧ Laid H' H.g H'.g [t] [z] := by
  obtain ⟨zs, H', h1, h2, h3⟩ := mat_lay n d hd [t] (by simpa using hg) H
  simp only [matL] at h1
  obtain ⟨⟨z, H1⟩, h4, h5⟩ := Option.bind_eq_some_iff.1 h1
  simp only [Option.map_some, Option.some.injEq, Prod.mk.injEq] at h5
  obtain ⟨rfl, rfl⟩ := h5
  exact ⟨z, H1, h4, h2, h3⟩
theorem Laid.one (h : Laid H lo hi ts zs) (hg : ∀ t ∈ ts, ∃ n, MatG n t) (ho : ∀ y, AV.v y ∈ ts → y.oneCell' = true) : zs.all okc = true := by
  induction h with
  | nil h => rfl
  | v y h ih => simp only [List.all_cons, okc, ho y (by simp), ih (fun t ht => hg t (by simp [ht])) (fun y hy => ho y (by simp [hy])), Bool.and_self]
  | nl h ih => simp only [List.all_cons, okc, ih (fun t ht => hg t (by simp [ht])) (fun y hy => ho y (by simp [hy])), Bool.and_self]
  | lst hne hn hsz hs hi1 hb h ih1 ih2 => simp only [List.all_cons, okc, ih2 (fun t ht => hg t (by simp [ht])) (fun y hy => ho y (by simp [hy])), Bool.and_self]
theorem Laid.clean (h : Laid H lo hi ts zs) : ∀ n d, (∀ t ∈ ts, MatG n t) → n ≤ d → zs.all (Eng.clean H d) = true := by
  induction h with
  | nil h => intro _ _ _ _; rfl
  | @v lo hi ts zs y h ih =>
    intro n d hg hd
    have i := ih n d (fun t ht => hg t (by simp [ht])) hd
    have g0 := hg (.v y) (by simp)
    cases n with
    | zero => exact absurd g0 (by simp [MatG])
    | succ n =>
      obtain ⟨d, rfl⟩ : ∃ e, d = e + 1 := ⟨d - 1, by omega⟩
      rw [List.all_cons, i]; rfl
  | @nl lo hi ts zs h ih =>
    intro n d hg hd
    have i := ih n d (fun t ht => hg t (by simp [ht])) hd
    have g0 := hg (.lst false []) (by simp)
    cases n with
    | zero => exact absurd g0 (by simp [MatG])
    | succ n =>
      obtain ⟨d, rfl⟩ : ∃ e, d = e + 1 := ⟨d - 1, by omega⟩
      rw [List.all_cons, i]; rfl
  | @lst lo b hi sz n rows cs ts zs hne hn hsz hs hi1 hb h ih1 ih2 =>
    intro m d hg hd
    have i := ih2 m d (fun t ht => hg t (by simp [ht])) hd
    have g0 := hg (.lst false rows) (by simp)
    cases m with
    | zero => exact absurd g0 (by simp [MatG])
    | succ m =>
      obtain ⟨d, rfl⟩ : ∃ e, d = e + 1 := ⟨d - 1, by omega⟩
      have hr : ∀ t ∈ rows.flatten, MatG m t := by
        intro t ht
        obtain ⟨c, hc, ht⟩ := List.mem_flatten.1 ht
        rcases g0 with ⟨y', e, -⟩ | ⟨xs, sz', e, -, hx⟩
        · cases e
        · cases e; exact (hx c hc).2 t ht
      have j := ih1 m d hr (by omega)
      have hl : cs.length = n * sz := by rw [hi1.len, flat_len sz rows hs, hn]
      have e : Eng.clean H (d + 1) (.sl b sz 0 n) = ((((H.h b).getD []).drop 0).take (n * sz)).all (Eng.clean H d) := rfl
      rw [List.all_cons, i, e, hb, Option.getD_some, List.drop_zero, List.take_of_length_le (Nat.le_of_eq hl), j]; rfl
/-- What a value becomes when it is laid into own blocks, and the heap then. -/
def zz (d : Nat) (t : AV) (H : Hp) : AV := ((mat d t H).getD (.v undef, H)).1
def hh (d : Nat) (t : AV) (H : Hp) : Hp := ((mat d t H).getD (.v undef, H)).2
theorem hh_ext (d : Nat) (t : AV) (H : Hp) : Ext H (hh d t H) := by
  unfold hh
  cases h : mat d t H with
  | none => exact .refl H
  | some q => exact (mat_ext d).1 t H q.1 q.2 h
/-- Blocks from lo on are as they were. -/
def Kept (lo : Nat) (H H' : Hp) : Prop := H.g ≤ H'.g ∧ ∀ b, lo ≤ b → b < H.g → H'.h b = H.h b
theorem Kept.refl (lo : Nat) (H : Hp) : Kept lo H H := ⟨Nat.le_refl _, fun _ _ _ => rfl⟩
theorem Kept.set {K : Hp} {b : Nat} {x : List AV} (hb : b < lo) (h : Kept lo H K) : Kept lo H (K.set b x) := ⟨h.1, fun b' h1 h2 => by rw [Hp.set_h, if_neg (by omega)]; exact h.2 b' h1 h2⟩
theorem Kept.hh {K : Hp} {d : Nat} {t : AV} (h : Kept lo H K) : Kept lo H (hh d t K) := ⟨Nat.le_trans h.1 (hh_ext d t K).1, fun b' h1 h2 => ((hh_ext d t K).2 b' (Nat.lt_of_lt_of_le h2 h.1)).trans (h.2 b' h1 h2)⟩
theorem Laid.zz {n d : Nat} {t : AV} {K : Hp} (hg : MatG n t) (hd : n ≤ d) (hlo : lo ≤ K.g) (hk : Kept K.g (Eng.hh d t K) H) (h : Laid H (Eng.hh d t K).g hi ts zs) : Laid H lo hi (t :: ts) (Eng.zz d t K :: zs) := by
  obtain ⟨z, H', h1, h2, h3⟩ := mat_one hd hg K
  have e : Eng.zz d t K = z := by simp only [Eng.zz, h1, Option.getD_some]
  have e2 : Eng.hh d t K = H' := by simp only [Eng.hh, h1, Option.getD_some]
  rw [e2] at hk h
  rw [e]
  exact ((h3.keep hk.2).low hlo).app h
def hlt (d : Nat) (t : AV) (H : Hp) (b : Nat) : Prop := b < (hh d t H).g
theorem Laid.flat {H : Hp} {lo hi : Nat} (hle : lo ≤ hi) : ∀ ts : List AV, (∀ x ∈ ts, ∃ y, x = .v y) → Laid H lo hi ts ts := by
  intro ts
  induction ts with
  | nil => intro _; exact .nil hle
  | cons t ts ih =>
    intro h
    obtain ⟨y, rfl⟩ := h t (by simp)
    exact .v y (ih fun x hx => h x (by simp [hx]))
end Go.Proofs.YtnejoidfbgklbaaGreatDoor.Eng
namespace Go.Proofs.YtnejoidfbgklbaaGreatDoor.Eng
open Go
set_option linter.unusedSimpArgs false
set_option linter.unusedVariables false

/-- Nothing but the blocks lo.., below hi, was written. -/
def OutOf (lo hi : Nat) (H H' : Hp) : Prop := H.g ≤ H'.g ∧ ∀ b, b < H.g → (b < lo ∨ hi ≤ b) → H'.h b = H.h b
/-- The blocks lo.., below hi, are as they were. -/
def InReg (lo hi : Nat) (H K : Hp) : Prop := H.g ≤ K.g ∧ ∀ b, lo ≤ b → b < hi → K.h b = H.h b
section
variable {lo hi : Nat} {H K K' : Hp}
theorem OutOf.refl (lo hi : Nat) (H : Hp) : OutOf lo hi H H := ⟨Nat.le_refl _, fun _ _ _ => rfl⟩
theorem OutOf.set {b : Nat} {x : List AV} (h : OutOf lo hi H K) (h1 : lo ≤ b) (h2 : b < hi) : OutOf lo hi H (K.set b x) := ⟨h.1, fun b' h3 h4 => by rw [Hp.set_h, if_neg (by omega)]; exact h.2 b' h3 h4⟩
theorem OutOf.out {l r : Nat} (o : OutOf l r K K') (h1 : lo ≤ l) (h2 : r ≤ hi) (h : OutOf lo hi H K) : OutOf lo hi H K' :=
  ⟨Nat.le_trans h.1 o.1, fun b h3 h4 => (o.2 b (Nat.lt_of_lt_of_le h3 h.1) (by omega)).trans (h.2 b h3 h4)⟩
theorem OutOf.new {x : List AV} (hg : hi ≤ H.g) (h : OutOf lo hi H K) : OutOf lo hi H (K.new x) := ⟨Nat.le_trans h.1 (by simp), fun b h3 h4 => by
  rw [Hp.new_h, if_neg (by have := h.1; omega)]; exact h.2 b h3 h4⟩
theorem InReg.refl (lo hi : Nat) (H : Hp) : InReg lo hi H H := ⟨Nat.le_refl _, fun _ _ _ => rfl⟩
theorem InReg.set {b : Nat} {x : List AV} (h1 : b < lo ∨ hi ≤ b) (h : InReg lo hi H K) : InReg lo hi H (K.set b x) := ⟨h.1, fun b' h3 h4 => by rw [Hp.set_h, if_neg (by omega)]; exact h.2 b' h3 h4⟩
theorem InReg.out {l r : Nat} (o : OutOf l r K K') (h1 : r ≤ lo ∨ hi ≤ l) (hg : hi ≤ H.g) (h : InReg lo hi H K) : InReg lo hi H K' :=
  ⟨Nat.le_trans h.1 o.1, fun b h3 h4 => (o.2 b (by have := h.1; omega) (by omega)).trans (h.2 b h3 h4)⟩
end
end Go.Proofs.YtnejoidfbgklbaaGreatDoor.Eng
namespace Go.Proofs.YtnejoidfbgklbaaGreatDoor.Eng
open Go
set_option linter.unusedSimpArgs false
set_option linter.unusedVariables false

theorem asC_ok {x : AV} (h : okc x = true) : asCells x = some [x] := by cases x <;> simp_all [asCells, okc]
theorem bs_3i (d x y z : AV) : bs 3 [d] [(0, x), (1, y), (2, z)] = if okc x = true ∧ okc y = true ∧ okc z = true then some ([x, y, z], 1) else bs' 3 [d] [(0, x), (1, y), (2, z)] := by
  split
  · rename_i h; simp [bs, afill, zeros, asC_ok h.1, asC_ok h.2.1, asC_ok h.2.2, setAll, List.replicate]
  · rfl
theorem bs_4i (d x y z w : AV) : bs 4 [d] [(0, x), (1, y), (2, z), (3, w)] = if okc x = true ∧ okc y = true ∧ okc z = true ∧ okc w = true then some ([x, y, z, w], 1) else bs' 4 [d] [(0, x), (1, y), (2, z), (3, w)] := by
  split
  · rename_i h; simp [bs, afill, zeros, asC_ok h.1, asC_ok h.2.1, asC_ok h.2.2.1, asC_ok h.2.2.2, setAll, List.replicate]
  · rfl
theorem bs_5i (d x y z w u : AV) : bs 5 [d] [(0, x), (1, y), (2, z), (3, w), (4, u)] = if okc x = true ∧ okc y = true ∧ okc z = true ∧ okc w = true ∧ okc u = true then some ([x, y, z, w, u], 1) else bs' 5 [d] [(0, x), (1, y), (2, z), (3, w), (4, u)] := by
  split
  · rename_i h; simp [bs, afill, zeros, asC_ok h.1, asC_ok h.2.1, asC_ok h.2.2.1, asC_ok h.2.2.2.1, asC_ok h.2.2.2.2, setAll, List.replicate]
  · rfl
theorem bs_6i (d x y z w u v : AV) : bs 6 [d] [(0, x), (1, y), (2, z), (3, w), (4, u), (5, v)] = if okc x = true ∧ okc y = true ∧ okc z = true ∧ okc w = true ∧ okc u = true ∧ okc v = true then some ([x, y, z, w, u, v], 1) else bs' 6 [d] [(0, x), (1, y), (2, z), (3, w), (4, u), (5, v)] := by
  split
  · rename_i h; simp [bs, afill, zeros, asC_ok h.1, asC_ok h.2.1, asC_ok h.2.2.1, asC_ok h.2.2.2.1, asC_ok h.2.2.2.2.1, asC_ok h.2.2.2.2.2, setAll, List.replicate]
  · rfl
theorem bs_7i (d x y z w u v r : AV) : bs 7 [d] [(0, x), (1, y), (2, z), (3, w), (4, u), (5, v), (6, r)] = if okc x = true ∧ okc y = true ∧ okc z = true ∧ okc w = true ∧ okc u = true ∧ okc v = true ∧ okc r = true then some ([x, y, z, w, u, v, r], 1) else bs' 7 [d] [(0, x), (1, y), (2, z), (3, w), (4, u), (5, v), (6, r)] := by
  split
  · rename_i h; simp [bs, afill, zeros, asC_ok h.1, asC_ok h.2.1, asC_ok h.2.2.1, asC_ok h.2.2.2.1, asC_ok h.2.2.2.2.1, asC_ok h.2.2.2.2.2.1, asC_ok h.2.2.2.2.2.2, setAll, List.replicate]
  · rfl
theorem chunk_one4 (x y z w : AV) : chunk 1 4 [x, y, z, w] = [[x], [y], [z], [w]] := rfl
theorem chunk_one5 (x y z w u : AV) : chunk 1 5 [x, y, z, w, u] = [[x], [y], [z], [w], [u]] := rfl
theorem chunk_one6 (x y z w u v : AV) : chunk 1 6 [x, y, z, w, u, v] = [[x], [y], [z], [w], [u], [v]] := rfl
theorem chunk_one7 (x y z w u v r : AV) : chunk 1 7 [x, y, z, w, u, v, r] = [[x], [y], [z], [w], [u], [v], [r]] := rfl
attribute [go_sem] bs_3i bs_4i bs_5i bs_6i bs_7i chunk_one4 chunk_one5 chunk_one6 chunk_one7

/-- What is appended to bytes: a list of bytes, or a literal of one, two or three. -/
def isB (y : AV) (l : List Int) : Prop := ∃ fu, y = .lst fu (l.map fun z => [cell z])
theorem isB_l (l : List Int) : isB (bytesL l) l := ⟨false, rfl⟩
theorem isB_2 (fu : Bool) (z w : Int) : isB (.lst fu [[.v (.int .u8 z)], [.v (.int .u8 w)]]) [z, w] := ⟨fu, rfl⟩
def aappend' := aappend
section
variable {P : Program} {t xt el : TypeId}
theorem happ_b {y : AV} {l : List Int} (hy : isB y l) (h4 : intT P xt = some false) (H : Hp) : aappended P H el [cell 0] xt y = some (l.length, l.map cell) := by
  obtain ⟨fu, rfl⟩ := hy
  have e := afirst_lst (H := H) (fu := fu) (sz := 1) (xs := l.map fun z => [cell z]) (n := l.length) (fun c hc => by obtain ⟨z, -, rfl⟩ := List.mem_map.1 hc; rfl) (by simp)
  simp only [aappended, h4, Option.bind_some, Bool.false_eq_true, if_false, alen_lst, List.length_map]
  rw [show ([cell 0] : List AV).length = 1 from rfl, e, cells_flat]; rfl
/-- To bytes that fill their block. -/
theorem app_blk (h1 : elemOf? P t = some el) (h2 : zeroOf P el = some [cell 0]) (h3 : bytesOf P el = some 1) (h4 : intT P xt = some false) {y : AV} {l : List Int} (hy : isB y l) (hne : l ≠ []) (a : List Int) (hl : a.length + l.length ≤ 16777216) {H : Hp} {b n : Nat} (hb : H.h b = some (a.map cell)) (hn : n = a.length) :
    aappend P H [t, xt] (.sl b 1 0 n) y = some (.sl H.g 1 0 (a ++ l).length, (H.del b).new ((a ++ l).map cell)) := by
  subst hn
  simp only [aappend, h1, h2, h3, Option.bind_some, happ_b hy h4]
  have hl0 : l.length ≠ 0 := fun e => hne (List.length_eq_zero_iff.1 e)
  rw [if_neg hl0, if_neg (by simp), if_pos ⟨rfl, roomy_1 (by omega)⟩, hb]
  simp only [Option.bind_some, List.length_map, Nat.zero_add, Nat.mul_one]
  rw [if_pos (Nat.le_refl _), if_neg (by omega), List.drop_zero, List.take_of_length_le (by simp), List.map_append, List.length_append]
open Classical in
theorem app_blkI (h1 : elemOf? P t = some el) (h2 : zeroOf P el = some [cell 0]) (h3 : bytesOf P el = some 1) (h4 : intT P xt = some false) {y : AV} {l : List Int} (hy : isB y l) (hne : l ≠ []) (a : List Int) (hl : a.length + l.length ≤ 16777216) (H : Hp) (b n : Nat) :
    aappend P H [t, xt] (.sl b 1 0 n) y = if H.h b = some (a.map cell) ∧ n = a.length then some (.sl H.g 1 0 (a ++ l).length, (H.del b).new ((a ++ l).map cell)) else aappend' P H [t, xt] (.sl b 1 0 n) y := by
  split
  · rename_i h; exact app_blk h1 h2 h3 h4 hy hne a hl h.1 h.2
  · rfl
theorem setAll_at : ∀ (l : List AV) (a z : List AV), a.length + l.length ≤ (a ++ z).length → setAll (a ++ z) a.length l = a ++ (l ++ z.drop l.length) := by
  intro l
  induction l with
  | nil => intro a z _; rfl
  | cons x l ih =>
    intro a z h
    cases z with
    | nil => simp at h; omega
    | cons y z =>
      simp only [setAll]
      have e1 : (a ++ y :: z).set a.length x = (a ++ [x]) ++ z := by rw [List.set_append_right _ _ (Nat.le_refl _)]; simp
      have e2 : a.length + 1 = (a ++ [x]).length := by simp
      rw [e1, e2, ih (a ++ [x]) z (by simp at h ⊢; omega)]
      simp
/-- To bytes with room behind them. -/
theorem app_room (h1 : elemOf? P t = some el) (h2 : zeroOf P el = some [cell 0]) (h3 : bytesOf P el = some 1) (h4 : intT P xt = some false) {y : AV} {l : List Int} (hy : isB y l) (a z : List Int) (hl : l.length ≤ z.length) (hz : a.length + z.length ≤ 16777216) {H : Hp} {b n : Nat} (hb : H.h b = some ((a ++ z).map cell)) (hn : n = a.length) :
    aappend P H [t, xt] (.sl b 1 0 n) y = some (.sl b 1 0 (a ++ l).length, H.set b (((a ++ l) ++ z.drop l.length).map cell)) := by
  subst hn
  simp only [aappend, h1, h2, h3, Option.bind_some, happ_b hy h4]
  by_cases hl0 : l.length = 0
  · have e : l = [] := List.length_eq_zero_iff.1 hl0
    subst e
    simp only [List.length_nil, if_true, List.append_nil, List.drop_zero]
    rw [if_pos ⟨by simp, by simp [hb]⟩, Hp.set_id hb]
  · rw [if_neg hl0, if_neg (by simp), if_pos ⟨rfl, roomy_1 (by omega)⟩, hb]
    simp only [Option.bind_some, List.length_map, Nat.zero_add, Nat.mul_one, List.length_append]
    rw [if_pos (by omega), if_pos (by omega)]
    have e : setAll ((a ++ z).map cell) a.length (l.map cell) = ((a ++ l) ++ z.drop l.length).map cell := by
      have := setAll_at (l.map cell) (a.map cell) (z.map cell) (by simp; omega)
      simp only [List.length_map] at this
      rw [List.map_append, this]
      simp [List.map_append, List.map_drop]
    rw [e]
end

def capD : Option TypeDesc → AV → Option AV
  | some (.slice _), .v (.slice none _ c) => some (.v (.int .i64 c))
  | some (.slice _), .lst true xs => some (.v (.int .i64 xs.length))
  | some (.array n _), _ => some (.v (.int .i64 n))
  | _, _ => none
theorem b_cap {P : Program} (t : TypeId) (ts : List TypeId) (x : AV) : builtin0 P .cap (t :: ts) [x] = capD (P.underlying t) x := by
  simp only [builtin0]
  cases P.underlying t with
  | none => rfl
  | some d =>
    cases d <;> first
      | rfl
      | (cases x <;> first
          | rfl
          | (rename_i y; cases y <;> first | rfl | (rename_i a n c; cases a <;> rfl))
          | (rename_i fu xs; cases fu <;> rfl))
theorem capD_nil (e : TypeId) (n c : Nat) : capD (some (.slice e)) (.v (.slice none n c)) = some (.v (.int .i64 c)) := rfl
theorem capD_lst (e : TypeId) (xs : List (List AV)) : capD (some (.slice e)) (.lst true xs) = some (.v (.int .i64 xs.length)) := rfl
attribute [go_sem] b_cap capD_nil capD_lst

/-! An index into bytes, numbers, texts. -/
def ixB (P : Program) (l : List Int) : Option TypeDesc → Option Nat → Option AV
  | some (.slice el), some i => (l[i]?).bind fun z => if szOf P el = some 1 then some (.fp [.v (.int .u8 z)] 0) else none
  | _, _ => none
def ixI (P : Program) (l : List Int) : Option TypeDesc → Option Nat → Option AV
  | some (.slice el), some i => (l[i]?).bind fun z => if szOf P el = some 1 then some (.fp [.v (.int .i64 z)] 0) else none
  | _, _ => none
def ixT (P : Program) (l : List ByteArray) : Option TypeDesc → Option Nat → Option AV
  | some (.slice el), some i => (l[i]?).bind fun z => if szOf P el = some 1 then some (.fp [.v (.string z)] 0) else none
  | _, _ => none
theorem ixB_s (P : Program) (l : List Int) (el : TypeId) (i : Nat) : ixB P l (some (.slice el)) (some i) = (l[i]?).bind fun z => if szOf P el = some 1 then some (.fp [.v (.int .u8 z)] 0) else none := rfl
theorem ixI_s (P : Program) (l : List Int) (el : TypeId) (i : Nat) : ixI P l (some (.slice el)) (some i) = (l[i]?).bind fun z => if szOf P el = some 1 then some (.fp [.v (.int .i64 z)] 0) else none := rfl
theorem ixT_s (P : Program) (l : List ByteArray) (el : TypeId) (i : Nat) : ixT P l (some (.slice el)) (some i) = (l[i]?).bind fun z => if szOf P el = some 1 then some (.fp [.v (.string z)] 0) else none := rfl
theorem aix_B {P : Program} (H : Hp) (t : TypeId) (l : List Int) (i : AV) : aindexAddr P H t (bytesL l) i = ixB P l (P.underlying t) (natOf i) := by
  unfold bytesL
  rw [aix_lst]
  cases natOf i with
  | none => simp only [Option.bind_none]; cases P.underlying t with
    | none => rfl
    | some d => cases d <;> rfl
  | some n =>
    cases P.underlying t with
    | none => rfl
    | some d =>
      cases d <;> first | rfl | skip
      simp only [Option.bind_some, ixB_s, List.getElem?_map]
      cases l[n]? <;> rfl
theorem aix_I {P : Program} (H : Hp) (t : TypeId) (l : List Int) (i : AV) : aindexAddr P H t (i64L l) i = ixI P l (P.underlying t) (natOf i) := by
  unfold i64L
  rw [aix_lst]
  cases natOf i with
  | none => simp only [Option.bind_none]; cases P.underlying t with
    | none => rfl
    | some d => cases d <;> rfl
  | some n =>
    cases P.underlying t with
    | none => rfl
    | some d =>
      cases d <;> first | rfl | skip
      simp only [Option.bind_some, ixI_s, List.getElem?_map]
      cases l[n]? <;> rfl
theorem aix_T {P : Program} (H : Hp) (t : TypeId) (l : List ByteArray) (i : AV) : aindexAddr P H t (textsL l) i = ixT P l (P.underlying t) (natOf i) := by
  unfold textsL
  rw [aix_lst]
  cases natOf i with
  | none => simp only [Option.bind_none]; cases P.underlying t with
    | none => rfl
    | some d => cases d <;> rfl
  | some n =>
    cases P.underlying t with
    | none => rfl
    | some d =>
      cases d <;> first | rfl | skip
      simp only [Option.bind_some, ixT_s, List.getElem?_map]
      cases l[n]? <;> rfl
attribute [go_sem] ixB_s ixI_s ixT_s aix_B aix_I aix_T

/-! Slice expressions, as equations without conditions. -/
theorem bnd_some (e : Env) (d : Nat) (x : Operand) : bound e d (some x) = natOf (opd e x) := rfl
theorem bnd_none (e : Env) (d : Nat) : bound e d none = some d := rfl
def sliceB (l : List Int) (oa ob : Option Nat) : Option AV := oa.bind fun a => ob.bind fun b => if a ≤ b ∧ b ≤ l.length then some (bytesL ((l.drop a).take (b - a))) else none
def sliceF (l : List Int) (oa : Option Nat) : Option AV := oa.bind fun a => if a ≤ l.length then some (bytesL (l.drop a)) else none
def sliceN (oa ob : Option Nat) : Option AV := oa.bind fun a => ob.bind fun b => if a = 0 ∧ b = 0 then some (.v (.slice none 0 0)) else none
def sliceO (h : Option (List AV)) (b sz o : Nat) (oa ob : Option Nat) : Option AV := h.bind fun cs => oa.bind fun l => ob.bind fun r => if l ≤ r ∧ o + r * sz ≤ cs.length then some (.sl b sz (o + l * sz) (r - l)) else none
def sliceS (s : ByteArray) (oa ob : Option Nat) : Option AV := oa.bind fun l => ob.bind fun h => if l ≤ h ∧ h ≤ s.size then some (.v (.string (s.extract l h))) else none
def sliceR {α : Type} (enc : α → List AV) (xs : List α) (oa ob : Option Nat) : Option AV := oa.bind fun a => ob.bind fun b => if a ≤ b ∧ b ≤ xs.length then some (.lst false (((xs.drop a).take (b - a)).map enc)) else none
theorem sliceB_ss (l : List Int) (a b : Nat) : sliceB l (some a) (some b) = if a ≤ b ∧ b ≤ l.length then some (bytesL ((l.drop a).take (b - a))) else none := rfl
theorem sliceF_s (l : List Int) (a : Nat) : sliceF l (some a) = if a ≤ l.length then some (bytesL (l.drop a)) else none := rfl
theorem sliceN_ss (a b : Nat) : sliceN (some a) (some b) = if a = 0 ∧ b = 0 then some (.v (.slice none 0 0)) else none := rfl
theorem sliceO_ss (cs : List AV) (b sz o l r : Nat) : sliceO (some cs) b sz o (some l) (some r) = if l ≤ r ∧ o + r * sz ≤ cs.length then some (.sl b sz (o + l * sz) (r - l)) else none := rfl
theorem sliceS_ss (s : ByteArray) (l h : Nat) : sliceS s (some l) (some h) = if l ≤ h ∧ h ≤ s.size then some (.v (.string (s.extract l h))) else none := rfl
theorem sliceR_ss {α : Type} (enc : α → List AV) (xs : List α) (a b : Nat) : sliceR enc xs (some a) (some b) = if a ≤ b ∧ b ≤ xs.length then some (.lst false (((xs.drop a).take (b - a)).map enc)) else none := rfl
attribute [go_sem] bnd_some bnd_none sliceB_ss sliceF_s sliceN_ss sliceO_ss sliceS_ss sliceR_ss
section
variable {P : Program} {t el : TypeId}
theorem aslice_B (hu : P.underlying t = some (.slice el)) (hz : szOf P el = some 1) (H : Hp) (e : Env) (l : List Int) (lo : Option Operand) (hi : Operand) : aslice P H e t (bytesL l) lo (some hi) none = sliceB l (bound e 0 lo) (natOf (opd e hi)) := by
  have h3 : (l.map fun z => [cell z]).all (fun c => decide (c.length = 1)) = true := by simp
  simp only [aslice, hu, bytesL, hz, Option.bind_some, bnd_some, h3, true_and, List.length_map, sliceB]
  cases bound e 0 lo with
  | none => rfl
  | some a =>
    cases natOf (opd e hi) with
    | none => rfl
    | some b => simp [bytesL, List.map_drop, List.map_take]
theorem aslice_F (hu : P.underlying t = some (.slice el)) (hz : szOf P el = some 1) (H : Hp) (e : Env) (l : List Int) (lo : Option Operand) : aslice P H e t (bytesL l) lo none none = sliceF l (bound e 0 lo) := by
  have h3 : (l.map fun z => [cell z]).all (fun c => decide (c.length = 1)) = true := by simp
  simp only [aslice, hu, bytesL, hz, Option.bind_some, bnd_none, h3, true_and, List.length_map, sliceF]
  cases bound e 0 lo with
  | none => rfl
  | some a =>
    simp only [Option.bind_some, Nat.le_refl, and_true]
    split
    · rw [List.take_of_length_le (by simp)]
      simp [bytesL, List.map_drop]
    · rfl
theorem aslice_N (hu : P.underlying t = some (.slice el)) {z : Nat} (hz : szOf P el = some z) (H : Hp) (e : Env) (lo : Option Operand) (hi : Operand) : aslice P H e t (.v (.slice none 0 0)) lo (some hi) none = sliceN (bound e 0 lo) (natOf (opd e hi)) := by
  simp only [aslice, hu, hz, Option.bind_some, bnd_some, bnd_none, sliceN]
  cases bound e 0 lo with
  | none => rfl
  | some a =>
    cases natOf (opd e hi) with
    | none => rfl
    | some b => simp
theorem aslice_O (hu : P.underlying t = some (.slice el)) {sz : Nat} (hz : szOf P el = some sz) (h0 : 0 < sz) (H : Hp) (e : Env) (b o n : Nat) (lo : Option Operand) (hi : Operand) : aslice P H e t (.sl b sz o n) lo (some hi) none = sliceO (H.h b) b sz o (bound e 0 lo) (natOf (opd e hi)) := by
  simp only [aslice, hu, hz, Option.isNone_none, h0, and_self, if_true, bnd_some, sliceO]
theorem aslice_OF (hu : P.underlying t = some (.slice el)) {sz : Nat} (hz : szOf P el = some sz) (h0 : 0 < sz) (H : Hp) (e : Env) (b o n : Nat) (lo : Option Operand) : aslice P H e t (.sl b sz o n) lo none none = sliceO (H.h b) b sz o (bound e 0 lo) (some n) := by
  simp only [aslice, hu, hz, Option.isNone_none, h0, and_self, if_true, bnd_none, sliceO]
theorem aslice_R {α : Type} {enc : α → List AV} {sz : Nat} (hl : ∀ k, (enc k).length = sz) (hu : P.underlying t = some (.slice el)) (hz : szOf P el = some sz) (H : Hp) (e : Env) (xs : List α) (lo : Option Operand) (hi : Operand) : aslice P H e t (.lst false (xs.map enc)) lo (some hi) none = sliceR enc xs (bound e 0 lo) (natOf (opd e hi)) := by
  have h3 : (xs.map enc).all (fun c => decide (c.length = sz)) = true := by simp [hl]
  simp only [aslice, hu, hz, Option.bind_some, bnd_some, h3, true_and, List.length_map, sliceR]
  cases bound e 0 lo with
  | none => rfl
  | some a =>
    cases natOf (opd e hi) with
    | none => rfl
    | some b => simp [List.map_drop, List.map_take]
end

/-- A part of a result: what it reads as, that it is clean, and where it lies. -/
def GivesF (n : Nat) (t x : AV) (H : Hp) : Prop := deep H n x = some t ∧ clean H n x = true ∧ ∃ fp, fpt H n x = some fp ∧ fp.Nodup
theorem gF_nil (n : Nat) (H : Hp) : GivesF (n + 1) (.lst false []) (.v (.slice none 0 0)) H := ⟨rfl, rfl, [], rfl, List.nodup_nil⟩
theorem gF_lstT (n : Nat) (H : Hp) : GivesF (n + 1) (.lst false []) (.lst true []) H := ⟨rfl, rfl, [], rfl, List.nodup_nil⟩
theorem gF_bytes {n : Nat} {H : Hp} {b k : Nat} {l : List Int} (hb : H.h b = some (l.map cell)) (hk : k = l.length) : GivesF (n + 2) (bytesL l) (.sl b 1 0 k) H := by
  subst hk
  have hd : deep H (n + 2) (.sl b 1 0 l.length) = some (bytesL l) := by
    refine deep_sl (by rw [cells_flat]; exact hb) (by omega) (fun x hx => ?_) (by simp) (fun c hc x hx => ?_)
    · obtain ⟨z, -, rfl⟩ := List.mem_map.1 hx; rfl
    · obtain ⟨z, -, rfl⟩ := List.mem_map.1 hc
      simp at hx; subst hx; rfl
  refine ⟨hd, ?_, ?_⟩
  · have e : clean H (n + 2) (.sl b 1 0 l.length) = ((((H.h b).getD []).drop 0).take (l.length * 1)).all (clean H (n + 1)) := rfl
    rw [e, hb, Option.getD_some, List.drop_zero, List.all_eq_true]; intro x hx
    obtain ⟨z, -, rfl⟩ := List.mem_map.1 (List.mem_of_mem_take hx); rfl
  · obtain ⟨fp, a1, a2, -⟩ := fpt_flat (d := n + 1) hb (sz := 1) (o := 0) (n := l.length) (fun c hc => by obtain ⟨z, -, rfl⟩ := List.mem_map.1 hc; rfl)
    exact ⟨fp, a1, a2⟩
/-- A struct of plain cells and one part at its end. -/
theorem gF_agg {n : Nat} {H : Hp} {t x : AV} (h : GivesF (n + 1) t x H) (cs : List AV) (hc : ∀ c ∈ cs, ∃ y, c = .v y ∧ Plain y) : GivesF (n + 2) (.agg (cs ++ [t])) (.agg (cs ++ [x])) H := by
  obtain ⟨h1, h2, fp, h3, h4⟩ := h
  have key : (cs ++ [x]).mapM (deep H (n + 1)) = some (cs ++ [t]) ∧ (cs ++ [x]).all (clean H (n + 1)) = true ∧ ∃ fps, (cs ++ [x]).mapM (fpt H (n + 1)) = some fps ∧ fps.flatten = fp := by
    clear h4
    induction cs with
    | nil => exact ⟨mapM_c h1 mapM_n, by simp [h2], [fp], mapM_cons_some.2 ⟨_, _, h3, rfl, rfl⟩, by simp⟩
    | cons c cs ih =>
      obtain ⟨i1, i2, fps, i3, i4⟩ := ih fun c hc' => hc c (by simp [hc'])
      obtain ⟨y, rfl, hy⟩ := hc c (by simp)
      refine ⟨mapM_c (hy H n) i1, ?_, [] :: fps, mapM_cons_some.2 ⟨_, _, rfl, i3, rfl⟩, by simpa using i4⟩
      simp only [List.cons_append, List.all_cons, i2, Bool.and_true]; rfl
  obtain ⟨k1, k2, fps, k3, k4⟩ := key
  refine ⟨deep_aggL k1, k2, fp, ?_, h4⟩
  show ((cs ++ [x]).mapM (fpt H (n + 1))).map List.flatten = some fp
  rw [k3, ← k4]; rfl
theorem gF_O {t x : AV} {H : Hp} (h : GivesF depthD t x H) : GivesO t x H := ⟨⟨h.1, h.2.1⟩, h.2.2⟩
/-- A list in block b whose rows are laid below it, or above it. -/
theorem gF_rows {H : Hp} {n d m sz b lo hi : Nat} {rows : List (List AV)} {zs : List AV} (h : Laid H lo hi rows.flatten zs) (hb : H.h b = some zs) (hlo : b < lo ∨ hi ≤ b) (hn : n ≤ d) (hm : m = rows.length) (hsz : 0 < sz) (hs : ∀ c ∈ rows, c.length = sz) (hg : ∀ c ∈ rows, ∀ t ∈ c, MatG n t) : GivesF (d + 1) (.lst false rows) (.sl b sz 0 m) H := by
  subst hm
  have hg' : ∀ t ∈ rows.flatten, MatG n t := fun t ht => by obtain ⟨c, hc, ht⟩ := List.mem_flatten.1 ht; exact hg c hc t ht
  obtain ⟨h1, fps, h2, h3, h4⟩ := h.deep n d hg' hn
  have h5 := h.clean n d hg' hn
  have hl : zs.length = rows.length * sz := by rw [h.len, flat_len sz rows hs]
  have htk : (zs.drop 0).take (rows.length * sz) = zs := by rw [List.drop_zero, List.take_of_length_le (by omega)]
  refine ⟨?_, ?_, ?_⟩
  · simp only [Eng.deep, hb, Option.bind_some]
    rw [if_pos ⟨by omega, hsz⟩, htk, h1]
    simp only [Option.map_some]
    rw [chunk_flat' sz rows hs]
  · have e : Eng.clean H (d + 1) (.sl b sz 0 rows.length) = ((((H.h b).getD []).drop 0).take (rows.length * sz)).all (Eng.clean H d) := rfl
    rw [e, hb, Option.getD_some, List.drop_zero, List.take_of_length_le (Nat.le_of_eq hl), h5]
  · simp only [fpt, hb, Option.bind_some]
    split
    · exact ⟨[], rfl, List.nodup_nil⟩
    · rw [htk, h2]
      exact ⟨_, rfl, List.nodup_cons.2 ⟨fun hm => by have := h4 b hm; omega, h3⟩⟩
/-- The same where the rows are held by a list that is being gathered. -/
theorem gF_racc {H : Hp} {n d m sz lo hi : Nat} {rows : List (List AV)} {zs : List AV} {x : AV} (h : Laid H lo hi rows.flatten zs) (ha : RAcc H x sz zs m) (hx : ∀ b, lo ≤ b → b < hi → Off b x) (hn : n ≤ d) (hm : m = rows.length) (hsz : 0 < sz) (hs : ∀ c ∈ rows, c.length = sz) (hg : ∀ c ∈ rows, ∀ t ∈ c, MatG n t) : GivesF (d + 1) (.lst false rows) x H := by
  rcases ha.2 with ⟨h0, e⟩ | ⟨b, hb, rfl, hh⟩
  · have e0 : rows = [] := List.length_eq_zero_iff.1 (by omega)
    subst e0
    rcases e with rfl | rfl
    · exact gF_lstT _ _
    · exact gF_nil _ _
  · refine gF_rows h hh ?_ hn hm hsz hs hg
    by_cases hc : b < lo ∨ hi ≤ b
    · exact hc
    · exact absurd rfl (hx b (by omega) (by omega) sz 0 m)
end Go.Proofs.YtnejoidfbgklbaaGreatDoor.Eng
namespace Go.Proofs.YtnejoidfbgklbaaGreatDoor.Eng
open Go
set_option linter.unusedSimpArgs false
set_option linter.unusedVariables false

/-- A list that is being gathered: n rows of sz cells each that stand for ts; their lists lie in the blocks from lo on, below hi, and the list itself, if it has any row, in a block between hi and g. -/
def LAcc (H : Hp) (x : AV) (sz lo hi g : Nat) (ts : List AV) (n : Nat) : Prop :=
  ∃ zs, Laid H lo hi ts zs ∧ zs.length = n * sz ∧ hi ≤ g ∧ g ≤ H.g ∧ ((n = 0 ∧ (x = .lst true [] ∨ x = .v (.slice none 0 0))) ∨ ∃ b, hi ≤ b ∧ b < g ∧ x = .sl b sz 0 n ∧ H.h b = some zs)
variable {H K : Hp} {x : AV} {sz lo hi g n : Nat} {ts : List AV}
theorem LAcc.nil (hg : lo ≤ H.g) : LAcc H (.v (.slice none 0 0)) sz lo lo lo [] 0 := ⟨[], .nil (Nat.le_refl _), by simp, Nat.le_refl _, hg, .inl ⟨rfl, .inr rfl⟩⟩
theorem LAcc.lst (hg : lo ≤ H.g) : LAcc H (.lst true []) sz lo lo lo [] 0 := ⟨[], .nil (Nat.le_refl _), by simp, Nat.le_refl _, hg, .inl ⟨rfl, .inl rfl⟩⟩
theorem LAcc.keep (h : LAcc H x sz lo hi g ts n) (hg : H.g ≤ K.g) (hk : ∀ b, lo ≤ b → b < g → K.h b = H.h b) : LAcc K x sz lo hi g ts n := by
  obtain ⟨zs, h1, h2, h3, h4, h5⟩ := h
  refine ⟨zs, h1.keep fun b hb1 hb2 => hk b hb1 (by omega), h2, h3, by omega, ?_⟩
  rcases h5 with h5 | ⟨b, hb1, hb2, rfl, hb3⟩
  · exact .inl h5
  · exact .inr ⟨b, hb1, hb2, rfl, (hk b (by have := h1.le; omega) hb2).trans hb3⟩
theorem LAcc.ext (h : LAcc H x sz lo hi g ts n) (he : Ext H K) : LAcc K x sz lo hi g ts n := h.keep he.1 fun b _ hb => he.2 b (by obtain ⟨zs, h1, h2, h3, h4, h5⟩ := h; omega)
theorem LAcc.one (h : LAcc H x sz lo hi g ts n) : okc x = true ∧ asCells x = some [x] := by
  obtain ⟨zs, h1, h2, h3, h4, h5⟩ := h
  rcases h5 with ⟨-, rfl | rfl⟩ | ⟨b, hb1, hb2, rfl, hb3⟩ <;> exact ⟨rfl, rfl⟩
theorem LAcc.len (h : LAcc H x sz lo hi g ts n) (e : TypeId) : lenD (some (.slice e)) x = some (.v (.int .i64 n)) := by
  obtain ⟨zs, h1, h2, h3, h4, h5⟩ := h
  rcases h5 with ⟨rfl, rfl | rfl⟩ | ⟨b, hb1, hb2, rfl, hb3⟩ <;> rfl
/-- One more row. -/
theorem LAcc.row {P : Program} {t xt el by_ m mid : Nat} {z : List AV} (h1 : elemOf? P t = some el) (h2 : zeroOf P el = some z) (h3 : bytesOf P el = some by_) (h4 : intT P xt = some false) (hz : z.length = sz) (hsz : 0 < sz)
    (h : LAcc K x sz lo hi g ts n) {tm zm : List AV} (hr : Laid K m mid tm zm) (hl : zm.length = sz) (hm1 : g ≤ m) (hm2 : mid ≤ K.g) (hro : (n + 1) * by_ ≤ 70368744177664) (hro2 : n + 1 ≤ 70368744177664) (fu : Bool) :
    ∃ K', aappend P K [t, xt] x (.lst fu [zm]) = some (.sl K.g sz 0 (n + 1), K') ∧ K'.g = K.g + 1 ∧ LAcc K' (.sl K.g sz 0 (n + 1)) sz lo mid (K.g + 1) (ts ++ tm) (n + 1) ∧ (∀ b, b < lo → K'.h b = K.h b) ∧ (∀ b, g ≤ b → b < K.g → K'.h b = K.h b) := by
  obtain ⟨zs, a1, a2, a3, a4, a5⟩ := h
  subst hz
  have l1 := a1.le
  have l2 := hr.le
  have happ : aappended P K el z xt (.lst fu [zm]) = some (1, zm) := by
    have e := afirst_one K fu zm
    rw [hl] at e
    simp only [aappended, h4, Option.bind_some, Bool.false_eq_true, if_false, alen_lst, List.length_cons, List.length_nil, Nat.zero_add, e, Option.map_some]
  have hlen : (zs ++ zm).length = (n + 1) * z.length := by rw [List.length_append, a2, hl, Nat.add_mul, Nat.one_mul]
  have hro3 : roomy (n + 1) by_ = true := roomy_of hro2 hro
  have hlaid : ∀ K' : Hp, (∀ b, lo ≤ b → b < hi → K'.h b = K.h b) → (∀ b, m ≤ b → b < mid → K'.h b = K.h b) → Laid K' lo mid (ts ++ tm) (zs ++ zm) := fun K' q1 q2 =>
    Laid.app ((a1.keep q1).high (by omega)) (hr.keep q2)
  simp only [aappend, h1, h2, h3, Option.bind_some, happ]
  rw [if_neg (by omega), if_neg (by omega)]
  rcases a5 with ⟨rfl, e⟩ | ⟨b, b1, b2, rfl, b3⟩
  · have e0 : zs = [] := List.length_eq_zero_iff.1 (by simpa using a2)
    subst e0
    have hfin : ∀ K' : Hp, K' = K.new zm → K'.g = K.g + 1 ∧ LAcc K' (.sl K.g z.length 0 (0 + 1)) z.length lo mid (K.g + 1) (ts ++ tm) (0 + 1) ∧ (∀ b, b < lo → K'.h b = K.h b) ∧ (∀ b, g ≤ b → b < K.g → K'.h b = K.h b) := by
      rintro K' rfl
      refine ⟨rfl, ⟨zm, ?_, by simpa using hlen, by omega, Nat.le_refl _, .inr ⟨K.g, hm2, by omega, rfl, by simp [Hp.new_h]⟩⟩, fun b hb => by rw [Hp.new_h, if_neg (by omega)], fun b _ hb => by rw [Hp.new_h, if_neg (by omega)]⟩
      exact hlaid (K.new zm) (fun b _ hb => by rw [Hp.new_h, if_neg (by omega)]) (fun b _ hb => by rw [Hp.new_h, if_neg (by omega)])
    rcases e with rfl | rfl
    · refine ⟨K.new zm, ?_, hfin _ rfl⟩
      (try dsimp only)
      rw [if_pos ⟨by simp, by simpa using hro3⟩]
      rfl
    · refine ⟨K.new zm, ?_, hfin _ rfl⟩
      (try dsimp only)
      rw [if_pos (by simpa using hro3)]
      rfl
  · (try dsimp only)
    rw [if_pos ⟨rfl, hro3⟩, b3]
    simp only [Option.bind_some, Nat.zero_add]
    have h5 : n * z.length ≤ zs.length := by omega
    have h6 : ¬ (n + 1) * z.length ≤ zs.length := by rw [a2, Nat.add_mul, Nat.one_mul]; omega
    rw [if_pos h5, if_neg h6]
    simp only [List.drop_zero, ← a2, List.take_length]
    refine ⟨_, rfl, rfl, ⟨zs ++ zm, ?_, hlen, by omega, Nat.le_refl _, .inr ⟨K.g, hm2, by omega, rfl, by simp [Hp.new_h]⟩⟩, fun b' hb => ?_, fun b' hb hb' => ?_⟩
    · exact hlaid _ (fun b' _ hb => by rw [Hp.new_h, Hp.del_g, if_neg (by omega), Hp.del_h, if_neg (by omega)]) (fun b' hb hb' => by rw [Hp.new_h, Hp.del_g, if_neg (by omega), Hp.del_h, if_neg (by omega)])
    · rw [Hp.new_h, Hp.del_g, if_neg (by omega), Hp.del_h, if_neg (by omega)]
    · rw [Hp.new_h, Hp.del_g, if_neg (by omega), Hp.del_h, if_neg (by omega)]
/-- What such a list reads as. -/
theorem LAcc.gives {d k : Nat} {rows : List (List AV)} (h : LAcc H x sz lo hi g ts n) (ht : ts = rows.flatten) (hk : k ≤ d) (hn : n = rows.length) (hsz : 0 < sz) (hs : ∀ c ∈ rows, c.length = sz) (hg : ∀ c ∈ rows, ∀ t ∈ c, MatG k t) : GivesF (d + 1) (.lst false rows) x H := by
  subst ht
  obtain ⟨zs, a1, a2, a3, a4, a5⟩ := h
  rcases a5 with ⟨h0, e⟩ | ⟨b, b1, b2, rfl, b3⟩
  · have e0 : rows = [] := List.length_eq_zero_iff.1 (by omega)
    subst e0
    rcases e with rfl | rfl
    · exact gF_lstT _ _
    · exact gF_nil _ _
  · exact gF_rows a1 b3 (.inr b1) hk hn hsz hs hg
/-- At a region: a walk can stop here. -/
theorem wAt {P : Program} {cfg : Cfg} {fid : Nat} (n : Nat) {ops : Array Oper} {d : Bool} {b : Code} {s : St} {Q : AX → St → Prop} (h : Wp P cfg fid (.seq (.region n ops d) b) s Q) : Wp P cfg fid (.seq (.region n ops d) b) s Q := h
/-- Only what R tells of the slots is wanted from here on. -/
theorem wEnv {P : Program} {cfg : Cfg} {fid : Nat} {c : Code} {e : Env} {H : Hp} {Q : AX → St → Prop} (R : Env → Prop) (hR : R e) (h : ∀ e2, R e2 → Wp P cfg fid c (e2, H) Q) : Wp P cfg fid c (e, H) Q := h e hR
end Go.Proofs.YtnejoidfbgklbaaGreatDoor.Eng
namespace Go.Proofs.YtnejoidfbgklbaaGreatDoor.Eng
open Go
set_option linter.unusedSimpArgs false
set_option linter.unusedVariables false

section
variable {P : Program} {cfg : Cfg} {fid : Nat}
/-- A late read of a kind that looks at blocks. -/
def ltQ (pol : Nat → Nat) (d : Option Nat) (op : Op) : Bool := pol (d.getD 0) == 2 && frK op
theorem bF_realQ {pol : Nat → Nat} {cf : CallF} {o : Oper} {e : Env} {K H : Hp} {r : AV × Hp} {q : Bool} (hq1 : q = true → frK o.op = true) (hK : HExt K H) (h : bF H q (aop P pol cf o e (hF K H q)) = some r) :
    aop P pol cf o e H = some r ∧ (q = true → ∀ H2, HExt K H2 → aop P pol cf o e H2 = some (r.1, H2)) := by
  cases hq : q with
  | false => rw [hq] at h; exact ⟨h, fun h => by simp at h⟩
  | true =>
    have hk : frK o.op = true := hq1 hq
    rw [hq] at h
    simp only [hF] at h
    cases ha : aop P pol cf o e K with
    | none => rw [ha] at h; simp [bF] at h
    | some q =>
      obtain ⟨v, H'⟩ := q
      rw [ha] at h
      simp only [bF, Option.some.injEq] at h
      subst h
      have hr := frK_read hk
      let cfg1 : Cfg := { pol := fun _ => pol, raw := fun _ => false }
      let cf0 : CallF := fun _ _ _ _ => none
      have hce : CfExt cfg1 cf0 := ⟨fun p f as H v H' H2 _ _ h _ => by simp [cf0] at h, fun f as H v H' _ _ h => by simp [cf0] at h⟩
      have hk1 : opKind cfg1 0 o = 1 := by
        obtain ⟨dst, op, ty, pos, after, guard⟩ := o
        unfold opKind
        cases op <;> first | (simp [frK] at hk; done) | rfl
      have all : ∀ H2, HExt K H2 → aop P pol cf o e H2 = some (v, H2) := fun H2 he => by
        rw [aop_read (cf' := cf0) hr] at ha ⊢
        exact aop_ext (cfg := cfg1) (fid := 0) hce hk1 ha he
      exact ⟨all H hK, fun _ => all⟩
/-- The first operations with late reads on K, and then the rest. -/
noncomputable def astepsL (P : Program) (pol : Nat → Nat) (cf : CallF) (ops : Array Oper) (K : Hp) (t : List Oper) : List Oper → Env → Hp → Option (Env × Hp)
  | [], e, H => asteps P pol cf ops t e H
  | o :: r, e, H => (awanted ops o e).bind fun w => if w then thenF P pol cf ops K (astepsL P pol cf ops K t r) e o.dst (bF H (ltQ pol o.dst o.op) (aop P pol cf o e (hF K H (ltQ pol o.dst o.op)))) else astepsL P pol cf ops K t r (put e o.dst (.v undef)) H
theorem stepsL_ok {pol : Nat → Nat} {cf : CallF} (ops : Array Oper) {K : Hp} (t : List Oper) (ht : (t.all fun o => !lateO pol o) = true) (ht2 : ∀ o, t[0]? = some o → blkO pol o = true) : ∀ (l : List Oper) (e : Env) (H : Hp) (x : Env × Hp), (l.all fun o => !lateO pol o || frK o.op) = true → HExt K H → astepsL P pol cf ops K t l e H = some x → asteps P pol cf ops (l ++ t) e H = some x ∧
    (∀ i si, i ≤ l.length → asteps P pol cf ops ((l ++ t).take i) e H = some si → HExt K si.2) ∧
    ∀ i o, (l ++ t)[i]? = some o → lateO pol o = true → ∀ k si sk, i ≤ k → k ≤ (l ++ t).length → (∀ j y, i < j → j < k → (l ++ t)[j]? = some y → blkO pol y = false) →
      asteps P pol cf ops ((l ++ t).take i) e H = some si → asteps P pol cf ops ((l ++ t).take k) e H = some sk → ∃ v, stepV P pol cf ops o si.1 si.2 = some (v, si.2) ∧ stepV P pol cf ops o si.1 sk.2 = some (v, sk.2) := by
  have hnl : ∀ (i : Nat) o, t[i]? = some o → lateO pol o = true → False := fun i o ho hl => by
    have := List.all_eq_true.1 ht o (List.mem_of_getElem? ho)
    rw [hl] at this; simp at this
  intro l
  induction l with
  | nil =>
    intro e H x _ hK h
    refine ⟨h, fun i si hi hs => ?_, fun i o ho hl => (hnl i o (by simpa using ho) hl).elim⟩
    have : i = 0 := by simpa using hi
    subst this
    simp only [List.take_zero, asteps, Option.some.injEq] at hs
    subst hs; exact hK
  | cons o r ih =>
    intro e H x hfr hK h
    simp only [List.all_cons, Bool.and_eq_true] at hfr
    obtain ⟨w, hw, h3⟩ := Option.bind_eq_some_iff.1 h
    have h4 : ∃ s1, astep P pol cf ops o e H = some s1 ∧ HExt K s1.2 ∧ astepsL P pol cf ops K t r s1.1 s1.2 = some x ∧ (lateO pol o = true → ∃ v, ∀ H2, HExt K H2 → stepV P pol cf ops o e H2 = some (v, H2)) := by
      unfold astep stepV
      rw [hw]
      simp only [Option.bind_some]
      cases w with
      | false => simp only [Bool.false_eq_true, if_false] at h3 ⊢; exact ⟨_, rfl, hK, h3, fun _ => ⟨_, fun _ _ => rfl⟩⟩
      | true =>
        simp only [if_true] at h3 ⊢
        cases h5 : bF H (ltQ pol o.dst o.op) (aop P pol cf o e (hF K H (ltQ pol o.dst o.op))) with
        | none => rw [h5] at h3; simp [thenF] at h3
        | some q =>
          obtain ⟨v, H'⟩ := q
          obtain ⟨b1, b2⟩ := bF_realQ (fun hq => by unfold ltQ at hq; rw [Bool.and_eq_true] at hq; exact hq.2) hK h5
          rw [h5] at h3
          simp only [thenF, kF] at h3
          split at h3
          · rename_i hk
            rw [b1]
            refine ⟨_, rfl, hk, h3, fun hl => ⟨_, b2 ?_⟩⟩
            have h6 := hfr.1
            rw [hl] at h6
            simp only [lateO, Bool.and_eq_true] at hl
            unfold ltQ
            rw [hl.1.2]
            simpa using h6
          · simp at h3
    obtain ⟨s1, g1, g2, g3, g4⟩ := h4
    obtain ⟨i1, i2, i3⟩ := ih _ _ _ hfr.2 g2 g3
    have hpre : ∀ i si, i ≤ (o :: r).length → asteps P pol cf ops (((o :: r) ++ t).take i) e H = some si → HExt K si.2 := fun i si hi hs => by
      cases i with
      | zero =>
        simp only [List.take_zero, asteps, Option.some.injEq] at hs
        subst hs; exact hK
      | succ i =>
        rw [List.cons_append, List.take_succ_cons, asteps, g1] at hs
        exact i2 i si (by simpa using hi) hs
    refine ⟨by rw [List.cons_append, asteps, g1]; exact i1, hpre, fun i o' ho hl k si sk hik hk hb hs hs' => ?_⟩
    cases i with
    | zero =>
      simp only [List.cons_append, List.getElem?_cons_zero, Option.some.injEq] at ho
      subst ho
      simp only [List.take_zero, asteps, Option.some.injEq] at hs
      subst hs
      obtain ⟨v, hv⟩ := g4 hl
      have hkl : k ≤ (o :: r).length := by
        rcases Nat.lt_or_ge (o :: r).length k with hlt | hge
        · exfalso
          have hkt : 0 < t.length := by rw [List.length_append] at hk; omega
          have h0 : ((o :: r) ++ t)[(o :: r).length]? = some t[0] := by rw [List.getElem?_append_right (Nat.le_refl _)]; simp
          have h1 := hb (o :: r).length t[0] (by simp) hlt h0
          rw [ht2 t[0] (by simp)] at h1
          simp at h1
        · exact hge
      exact ⟨v, hv H hK, hv _ (hpre k sk hkl hs')⟩
    | succ i =>
      obtain ⟨k, rfl⟩ : ∃ k', k = k' + 1 := ⟨k - 1, by omega⟩
      simp only [List.cons_append, List.getElem?_cons_succ] at ho
      rw [List.cons_append, List.take_succ_cons, asteps, g1] at hs hs'
      exact i3 i o' ho hl k si sk (by omega) (by simpa using hk) (fun j y h1 h2 h3 => hb (j + 1) y (by omega) (by omega) (by simpa using h3)) hs hs'
variable {s : St} {Q : AX → St → Prop}
/-- A region whose first n operations leave K's blocks and have all late reads; then comes a write, or nothing. -/
theorem wRegN (n : Nat) (K : Hp) {id : Nat} {ops : Array Oper} {d : Bool} (hK : HExt K s.2) (h : ∀ x, astepsL P (cfg.pol fid) (call P cfg) ops K (ops.toList.drop n) (ops.toList.take n) s.1 s.2 = x → ∃ s', x = some s' ∧ Q .normal s')
    (h1 : ((ops.toList.drop n).all fun o => !lateO (cfg.pol fid) o) = true := by rfl) (h2 : ((ops.toList.take n).all fun o => !lateO (cfg.pol fid) o || frK o.op) = true := by rfl)
    (h3 : (((ops.toList.drop n)[0]?).all fun o => blkO (cfg.pol fid) o) = true := by rfl) (h4 : (ops.toList.all fun o => !freeO (cfg.pol fid) o) = true := by rfl) : Wp P cfg fid (.region id ops d) s Q := by
  obtain ⟨s', e1, e2⟩ := h _ rfl
  obtain ⟨g1, g2, g3⟩ := stepsL_ok ops (ops.toList.drop n) h1 (fun o ho => by rw [ho] at h3; simpa using h3) (ops.toList.take n) _ _ _ h2 hK e1
  rw [List.take_append_drop] at g1 g3
  refine wRegL fun x hx => ⟨s', by rw [← hx]; exact g1, ⟨fun i o ho hl k si sk hik hk hb hs hs' => g3 i o (by rw [toList_get]; exact ho) hl k si sk hik (by simpa using hk) (fun j y a1 a2 a3 => hb j y a1 a2 (by rw [← toList_get]; exact a3)) hs hs', fun i o ho hf => ?_⟩, e2⟩
  have := List.all_eq_true.1 h4 o (by rw [← toList_get] at ho; exact List.mem_of_getElem? ho)
  rw [hf] at this; simp at this
theorem astepsL_nil {pol : Nat → Nat} {cf : CallF} (ops : Array Oper) (K : Hp) (t : List Oper) (e : Env) (H : Hp) : astepsL P pol cf ops K t [] e H = asteps P pol cf ops t e H := rfl
theorem astepsL_one {pol : Nat → Nat} {cf : CallF} (ops : Array Oper) (K : Hp) (t : List Oper) (d : Option Nat) (op : Op) (ty : TypeId) (pos : String) (aft : Array Edge) (r : List Oper) (e : Env) (H : Hp) :
    astepsL P pol cf ops K t (⟨d, op, ty, pos, aft, none⟩ :: r) e H = thenF P pol cf ops K (astepsL P pol cf ops K t r) e d (bF H (ltQ pol d op) (aop P pol cf ⟨d, op, 0, "", #[], none⟩ e (hF K H (ltQ pol d op)))) := rfl
end
attribute [go_sem] astepsL_nil astepsL_one ltQ List.take_succ_cons List.drop_succ_cons List.take_zero List.drop_zero Option.getD_none Option.getD_some
end Go.Proofs.YtnejoidfbgklbaaGreatDoor.Eng
namespace Go.Proofs.YtnejoidfbgklbaaGreatDoor.Eng
open Go Go.RowKit
set_option linter.unusedSimpArgs false
set_option linter.unusedVariables false

section
variable {P : Program} {F : Nat → Nat → Prop} {w : World} {ρ : Nat → Loc}
def txcell (s : ByteArray) : AV := .v (.string s)
theorem txcells_flat (l : List ByteArray) : (l.map fun s => [AV.v (.string s)]).flatten = l.map txcell := by
  induction l with
  | nil => rfl
  | cons y l ih => simp only [List.map_cons, List.flatten_cons, ih]; rfl
theorem deep_txts {H : Hp} {b n : Nat} {l : List ByteArray} (hb : H.h b = some (l.map txcell)) (hl : n = l.length) (hlt : b < H.g) (d : Nat) : deep H (d + 2) (.sl b 1 0 n) = some (textsL l) := by
  have h : RAcc H (.sl b 1 0 n) 1 ((l.map fun s => [AV.v (.string s)]).flatten) n := by
    rw [txcells_flat]
    exact ⟨by simp [hl], .inr ⟨b, hlt, rfl, hb⟩⟩
  exact deep_racc (enc := fun s : ByteArray => [AV.v (.string s)]) h hl (by omega) (fun _ => rfl) (fun k x hx => by simp only [List.mem_singleton] at hx; subst hx; exact Fz.string _ _)
end
end Go.Proofs.YtnejoidfbgklbaaGreatDoor.Eng
