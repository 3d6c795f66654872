/- The engine, part 30: numbers as texts and back (strconv), by laws from elsewhere. -/
import Derived.Test.YtepnlhjafgomgaaDoorEQ
import Derived.Lib.ItoaNum
import Derived.Lib.AtoiAll
import Derived.Lib.AtoiAllCases
import Derived.Lib.ParseIntB
import Derived.Lib.AtoiErrMem
import Derived.Lib.AppendIntMem
namespace Go.Proofs.YtepnlhjafgomgaaDoor.Eng
open Go Go.RowKit
set_option linter.unusedSimpArgs false
set_option linter.unusedVariables false

section
variable {P : Program} {F : Nat → Nat → Prop} {w : World} {ρ : Nat → Loc}
def itoaT (n : Int) : AV := .v (.string ⟨(Lib.itoa n).toArray⟩)
def i64B (n : Int) : Prop := -9223372036854775808 ≤ n ∧ n ≤ 9223372036854775807
instance (n : Int) : Decidable (i64B n) := inferInstanceAs (Decidable (_ ∧ _))
def itoaG : List AV → Option (AV × Bool)
  | [.v (.int .i64 n)] => if i64B n then some (itoaT n, true) else none
  | _ => none
def fmtG : List AV → Option (AV × Bool)
  | [.v (.int .i64 n), .v (.int .i64 10)] => if i64B n then some (itoaT n, true) else none
  | _ => none
/-- How a text's reading ends: the number, and whether there is an error. -/
def endT (sat : Int) : Lib.NumEnd Int → AV
  | .ok v => .tup [.v (.int .i64 v), .ifc false]
  | Lib.NumEnd.syntax => .tup [.v (.int .i64 0), .ifc true]
  | .range => .tup [.v (.int .i64 sat), .ifc true]
def atoiG : List AV → Option (AV × Bool)
  | [.v (.string s)] => if s.size ≤ 281474976710656 then some (endT (Lib.atoiSat s.data.toList) (Lib.atoiAll s.data.toList), true) else none
  | _ => none
def parseG : List AV → Option (AV × Bool)
  | [.v (.string s), .v (.int .i64 10), .v (.int .i64 64)] => if s.size ≤ 281474976710656 then some (endT (Lib.intSat 64 s.data.toList) (Lib.parseIntB 64 s.data.toList), true) else none
  | _ => none

def Post (P : Program) (f : Nat) (vals : Array Value) (ρ : Nat → Loc) (F : Nat → Nat → Prop) (w : World) (v : AV) (cl : Bool) : Prop :=
  Calls P f vals w fun e w' => ∃ u F', e = .returned u ∧ After w.heap.size Hp.nil ρ F w Hp.nil ρ F' w' ∧ VR Hp.nil ρ F' w' v u ∧ (cl = true → VR Hp.nil ρ (fun k o => F' k o ∧ w.heap.size ≤ k) w' v u)
theorem post_of {f : Nat} {vals : Array Value} {v : AV} {cl : Bool} (I : Inv w.heap.size Hp.nil ρ F w)
    (h : Calls P f vals w fun e w' => ∃ u, e = .returned u ∧ Below w.heap.size w w' ∧ ∀ F w, VR Hp.nil ρ F w v u) : Post P f vals ρ F w v cl :=
  h.mono fun e w' ⟨u, he, hb, hv⟩ => ⟨u, _, he, back_ok I hb, hv _ _, fun _ => hv _ _⟩
theorem vals1 {vals : Array Value} {x : Value} (hl : [AV.v x].length = vals.size) (hv : ∀ (i : Nat) a y, [AV.v x][i]? = some a → vals[i]? = some y → VR Hp.nil ρ F w a y) : vals = #[x] := by
  obtain ⟨l⟩ := vals
  match l, hl with
  | [y], _ =>
    have := hv 0 _ y rfl rfl
    cases this; rfl
theorem vals2 {vals : Array Value} {x x2 : Value} (hl : [AV.v x, AV.v x2].length = vals.size) (hv : ∀ (i : Nat) a y, [AV.v x, AV.v x2][i]? = some a → vals[i]? = some y → VR Hp.nil ρ F w a y) : vals = #[x, x2] := by
  obtain ⟨l⟩ := vals
  match l, hl with
  | [y, y2], _ =>
    have h1 := hv 0 _ y rfl rfl
    have h2 := hv 1 _ y2 rfl rfl
    cases h1; cases h2; rfl
theorem vals3 {vals : Array Value} {x x2 x3 : Value} (hl : [AV.v x, AV.v x2, AV.v x3].length = vals.size) (hv : ∀ (i : Nat) a y, [AV.v x, AV.v x2, AV.v x3][i]? = some a → vals[i]? = some y → VR Hp.nil ρ F w a y) : vals = #[x, x2, x3] := by
  obtain ⟨l⟩ := vals
  match l, hl with
  | [y, y2, y3], _ =>
    have h1 := hv 0 _ y rfl rfl
    have h2 := hv 1 _ y2 rfl rfl
    have h3 := hv 2 _ y3 rfl rfl
    cases h1; cases h2; cases h3; rfl

theorem itoa_ok {f : Nat} (law : ∀ (n : Int) (w : World), i64B n → Tab w.heap.size w → Calls P f #[.int .i64 n] w fun e w' => e = .returned (.string ⟨(Lib.itoa n).toArray⟩) ∧ ∃ k os, w' = Go.Sort.grow (w.drewN k) os)
    {ts : List AV} {v : AV} {cl : Bool} (hg : itoaG ts = some (v, cl)) {vals : Array Value} (I : Inv w.heap.size Hp.nil ρ F w) (hl : ts.length = vals.size) (hv : ∀ (i : Nat) x y, ts[i]? = some x → vals[i]? = some y → VR Hp.nil ρ F w x y) : Post P f vals ρ F w v cl := by
  unfold itoaG at hg
  split at hg
  rotate_left
  · simp at hg
  split at hg
  rotate_left
  · simp at hg
  rename_i n hn
  simp only [Option.some.injEq, Prod.mk.injEq] at hg
  obtain ⟨rfl, rfl⟩ := hg
  obtain rfl := vals1 hl hv
  refine post_of I ((law n w hn I.tab).mono ?_)
  rintro e w' ⟨rfl, k, os, rfl⟩
  exact ⟨_, rfl, Lib.below_grow _ w (Nat.le_refl _) k os, fun _ _ => .v⟩
theorem fmt_ok {f : Nat} (law : ∀ (n : Int) (w : World), i64B n → Tab w.heap.size w → Calls P f #[.int .i64 n, .int .i64 10] w fun e w' => e = .returned (.string ⟨(Lib.itoa n).toArray⟩) ∧ ∃ k os, w' = Go.Sort.grow (w.drewN k) os)
    {ts : List AV} {v : AV} {cl : Bool} (hg : fmtG ts = some (v, cl)) {vals : Array Value} (I : Inv w.heap.size Hp.nil ρ F w) (hl : ts.length = vals.size) (hv : ∀ (i : Nat) x y, ts[i]? = some x → vals[i]? = some y → VR Hp.nil ρ F w x y) : Post P f vals ρ F w v cl := by
  unfold fmtG at hg
  split at hg
  rotate_left
  · simp at hg
  split at hg
  rotate_left
  · simp at hg
  rename_i n hn
  simp only [Option.some.injEq, Prod.mk.injEq] at hg
  obtain ⟨rfl, rfl⟩ := hg
  obtain rfl := vals2 hl hv
  refine post_of I ((law n w hn I.tab).mono ?_)
  rintro e w' ⟨rfl, k, os, rfl⟩
  exact ⟨_, rfl, Lib.below_grow _ w (Nat.le_refl _) k os, fun _ _ => .v⟩
theorem vr_end0 {n : Int} : VR Hp.nil ρ F w (.tup [.v (.int .i64 n), .ifc false]) (.tuple #[.int .i64 n, .nilIface]) := by
  refine .tup rfl fun i x y hx hy => ?_
  match i with
  | 0 => simp at hx hy; subst hx hy; exact .v
  | 1 => simp at hx hy; subst hx hy; exact .ifc0
  | i + 2 => simp at hx
theorem vr_end1 {n : Int} {t : TypeId} {p : Value} : VR Hp.nil ρ F w (.tup [.v (.int .i64 n), .ifc true]) (.tuple #[.int .i64 n, .iface t p]) := by
  refine .tup rfl fun i x y hx hy => ?_
  match i with
  | 0 => simp at hx hy; subst hx hy; exact .v
  | 1 => simp at hx hy; subst hx hy; exact .ifc1
  | i + 2 => simp at hx
theorem numEnd_cases {α : Type} (r : Lib.NumEnd α) : (∃ v, r = .ok v) ∨ r = Lib.NumEnd.syntax ∨ r = .range := by cases r <;> simp
/-- What is asked of a reading of numbers, by how it ends. -/
def EndLaw (P : Program) (f : Nat) (vals : Array Value) (w : World) (sat : Int) (r : Lib.NumEnd Int) : Prop :=
  Calls P f vals w fun e w' => Below w.heap.size w w' ∧ match r with
    | .ok v => e = .returned (.tuple #[.int .i64 v, .nilIface])
    | Lib.NumEnd.syntax => ∃ t p, e = .returned (.tuple #[.int .i64 0, .iface t p])
    | .range => ∃ t p, e = .returned (.tuple #[.int .i64 sat, .iface t p])
theorem end_ok {f : Nat} {vals : Array Value} {sat : Int} {r : Lib.NumEnd Int} {cl : Bool} (I : Inv w.heap.size Hp.nil ρ F w) (h : EndLaw P f vals w sat r) : Post P f vals ρ F w (endT sat r) cl := by
  refine post_of I (h.mono ?_)
  rintro e w' ⟨hb, he⟩
  rcases numEnd_cases r with ⟨v, rfl⟩ | rfl | rfl
  · subst he; exact ⟨_, rfl, hb, fun _ _ => vr_end0⟩
  · obtain ⟨t, p, rfl⟩ := he; exact ⟨_, rfl, hb, fun _ _ => vr_end1⟩
  · obtain ⟨t, p, rfl⟩ := he; exact ⟨_, rfl, hb, fun _ _ => vr_end1⟩
/-- The error of a text that is no number, by the inner one's kind (2). -/
def toErrG (t : TypeId) : List AV → Option (AV × Bool)
  | [.v (.string _), .v (.string s), .v (.int .i64 _), .v (.int .i64 _), .v (.iface u (.int .i64 2))] => if s.size ≤ 281474976710656 ∧ u = t then some (.ifc true, true) else none
  | _ => none
theorem vals5 {vals : Array Value} {x x2 x3 x4 x5 : Value} (hl : [AV.v x, AV.v x2, AV.v x3, AV.v x4, AV.v x5].length = vals.size) (hv : ∀ (i : Nat) a y, [AV.v x, AV.v x2, AV.v x3, AV.v x4, AV.v x5][i]? = some a → vals[i]? = some y → VR Hp.nil ρ F w a y) : vals = #[x, x2, x3, x4, x5] := by
  obtain ⟨l⟩ := vals
  match l, hl with
  | [y, y2, y3, y4, y5], _ =>
    have h1 := hv 0 _ y rfl rfl
    have h2 := hv 1 _ y2 rfl rfl
    have h3 := hv 2 _ y3 rfl rfl
    have h4 := hv 3 _ y4 rfl rfl
    have h5 := hv 4 _ y5 rfl rfl
    cases h1; cases h2; cases h3; cases h4; cases h5; rfl
theorem toErr_ok {f : Nat} {t : TypeId} (law : ∀ (fn s : ByteArray) (base bits : Int) (w : World), s.size ≤ 281474976710656 → Tab w.heap.size w → Calls P f #[.string fn, .string s, .int .i64 base, .int .i64 bits, .iface t (.int .i64 2)] w fun e w' => Below w.heap.size w w' ∧ ∃ u p, e = .returned (.iface u p))
    {ts : List AV} {v : AV} {cl : Bool} (hg : toErrG t ts = some (v, cl)) {vals : Array Value} (I : Inv w.heap.size Hp.nil ρ F w) (hl : ts.length = vals.size) (hv : ∀ (i : Nat) x y, ts[i]? = some x → vals[i]? = some y → VR Hp.nil ρ F w x y) : Post P f vals ρ F w v cl := by
  unfold toErrG at hg
  split at hg
  rotate_left
  · simp at hg
  split at hg
  rotate_left
  · simp at hg
  rename_i fn s base bits u hs
  simp only [Option.some.injEq, Prod.mk.injEq] at hg
  obtain ⟨rfl, rfl⟩ := hg
  obtain rfl := hs.2
  obtain rfl := vals5 hl hv
  refine post_of I ((law fn s base bits w hs.1 I.tab).mono ?_)
  rintro e w' ⟨hb, t, p, rfl⟩
  exact ⟨_, rfl, hb, fun _ _ => .ifc1⟩
theorem atoi_ok {f : Nat} (law : ∀ (s : ByteArray) (w : World), s.size ≤ 281474976710656 → Tab w.heap.size w → EndLaw P f #[.string s] w (Lib.atoiSat s.data.toList) (Lib.atoiAll s.data.toList))
    {ts : List AV} {v : AV} {cl : Bool} (hg : atoiG ts = some (v, cl)) {vals : Array Value} (I : Inv w.heap.size Hp.nil ρ F w) (hl : ts.length = vals.size) (hv : ∀ (i : Nat) x y, ts[i]? = some x → vals[i]? = some y → VR Hp.nil ρ F w x y) : Post P f vals ρ F w v cl := by
  unfold atoiG at hg
  split at hg
  rotate_left
  · simp at hg
  split at hg
  rotate_left
  · simp at hg
  rename_i s hs
  simp only [Option.some.injEq, Prod.mk.injEq] at hg
  obtain ⟨rfl, rfl⟩ := hg
  obtain rfl := vals1 hl hv
  exact end_ok I (law s w hs I.tab)
theorem parse_ok {f : Nat} (law : ∀ (s : ByteArray) (w : World), s.size ≤ 281474976710656 → Tab w.heap.size w → EndLaw P f #[.string s, .int .i64 10, .int .i64 64] w (Lib.intSat 64 s.data.toList) (Lib.parseIntB 64 s.data.toList))
    {ts : List AV} {v : AV} {cl : Bool} (hg : parseG ts = some (v, cl)) {vals : Array Value} (I : Inv w.heap.size Hp.nil ρ F w) (hl : ts.length = vals.size) (hv : ∀ (i : Nat) x y, ts[i]? = some x → vals[i]? = some y → VR Hp.nil ρ F w x y) : Post P f vals ρ F w v cl := by
  unfold parseG at hg
  split at hg
  rotate_left
  · simp at hg
  split at hg
  rotate_left
  · simp at hg
  rename_i s hs
  simp only [Option.some.injEq, Prod.mk.injEq] at hg
  obtain ⟨rfl, rfl⟩ := hg
  obtain rfl := vals3 hl hv
  exact end_ok I (law s w hs I.tab)
end
end Go.Proofs.YtepnlhjafgomgaaDoor.Eng
