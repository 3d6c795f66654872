/- The engine, part 34: appends to lists of bytes; literals of three to six elements; results with own parts. -/
import Derived.Test.YtepnlhjafgomgaaDoorE33
namespace Go.Proofs.YtepnlhjafgomgaaDoor.Eng
open Go
set_option linter.unusedSimpArgs false
set_option linter.unusedVariables false

theorem asC_ok {x : AV} (h : okc x = true) : asCells x = some [x] := by cases x <;> simp_all [asCells, okc]
theorem bs_3i (d x y z : AV) : bs 3 [d] [(0, x), (1, y), (2, z)] = if okc x = true ∧ okc y = true ∧ okc z = true then some ([x, y, z], 1) else bs' 3 [d] [(0, x), (1, y), (2, z)] := by
  split
  · rename_i h; simp [bs, afill, zeros, asC_ok h.1, asC_ok h.2.1, asC_ok h.2.2, setAll, List.replicate]
  · rfl
theorem bs_4i (d x y z w : AV) : bs 4 [d] [(0, x), (1, y), (2, z), (3, w)] = if okc x = true ∧ okc y = true ∧ okc z = true ∧ okc w = true then some ([x, y, z, w], 1) else bs' 4 [d] [(0, x), (1, y), (2, z), (3, w)] := by
  split
  · rename_i h; simp [bs, afill, zeros, asC_ok h.1, asC_ok h.2.1, asC_ok h.2.2.1, asC_ok h.2.2.2, setAll, List.replicate]
  · rfl
theorem bs_5i (d x y z w u : AV) : bs 5 [d] [(0, x), (1, y), (2, z), (3, w), (4, u)] = if okc x = true ∧ okc y = true ∧ okc z = true ∧ okc w = true ∧ okc u = true then some ([x, y, z, w, u], 1) else bs' 5 [d] [(0, x), (1, y), (2, z), (3, w), (4, u)] := by
  split
  · rename_i h; simp [bs, afill, zeros, asC_ok h.1, asC_ok h.2.1, asC_ok h.2.2.1, asC_ok h.2.2.2.1, asC_ok h.2.2.2.2, setAll, List.replicate]
  · rfl
theorem bs_6i (d x y z w u v : AV) : bs 6 [d] [(0, x), (1, y), (2, z), (3, w), (4, u), (5, v)] = if okc x = true ∧ okc y = true ∧ okc z = true ∧ okc w = true ∧ okc u = true ∧ okc v = true then some ([x, y, z, w, u, v], 1) else bs' 6 [d] [(0, x), (1, y), (2, z), (3, w), (4, u), (5, v)] := by
  split
  · rename_i h; simp [bs, afill, zeros, asC_ok h.1, asC_ok h.2.1, asC_ok h.2.2.1, asC_ok h.2.2.2.1, asC_ok h.2.2.2.2.1, asC_ok h.2.2.2.2.2, setAll, List.replicate]
  · rfl
theorem bs_7i (d x y z w u v r : AV) : bs 7 [d] [(0, x), (1, y), (2, z), (3, w), (4, u), (5, v), (6, r)] = if okc x = true ∧ okc y = true ∧ okc z = true ∧ okc w = true ∧ okc u = true ∧ okc v = true ∧ okc r = true then some ([x, y, z, w, u, v, r], 1) else bs' 7 [d] [(0, x), (1, y), (2, z), (3, w), (4, u), (5, v), (6, r)] := by
  split
  · rename_i h; simp [bs, afill, zeros, asC_ok h.1, asC_ok h.2.1, asC_ok h.2.2.1, asC_ok h.2.2.2.1, asC_ok h.2.2.2.2.1, asC_ok h.2.2.2.2.2.1, asC_ok h.2.2.2.2.2.2, setAll, List.replicate]
  · rfl
theorem chunk_one4 (x y z w : AV) : chunk 1 4 [x, y, z, w] = [[x], [y], [z], [w]] := rfl
theorem chunk_one5 (x y z w u : AV) : chunk 1 5 [x, y, z, w, u] = [[x], [y], [z], [w], [u]] := rfl
theorem chunk_one6 (x y z w u v : AV) : chunk 1 6 [x, y, z, w, u, v] = [[x], [y], [z], [w], [u], [v]] := rfl
theorem chunk_one7 (x y z w u v r : AV) : chunk 1 7 [x, y, z, w, u, v, r] = [[x], [y], [z], [w], [u], [v], [r]] := rfl
attribute [go_sem] bs_3i bs_4i bs_5i bs_6i bs_7i chunk_one4 chunk_one5 chunk_one6 chunk_one7

/-- What is appended to bytes: a list of bytes, or a literal of one, two or three. -/
def isB (y : AV) (l : List Int) : Prop := ∃ fu, y = .lst fu (l.map fun z => [cell z])
theorem isB_l (l : List Int) : isB (bytesL l) l := ⟨false, rfl⟩
theorem isB_1 (fu : Bool) (z : Int) : isB (.lst fu [[.v (.int .u8 z)]]) [z] := ⟨fu, rfl⟩
theorem isB_2 (fu : Bool) (z w : Int) : isB (.lst fu [[.v (.int .u8 z)], [.v (.int .u8 w)]]) [z, w] := ⟨fu, rfl⟩
theorem isB_3 (fu : Bool) (z w u : Int) : isB (.lst fu [[.v (.int .u8 z)], [.v (.int .u8 w)], [.v (.int .u8 u)]]) [z, w, u] := ⟨fu, rfl⟩
def aappend' := aappend
section
variable {P : Program} {t xt el : TypeId}
theorem happ_b {y : AV} {l : List Int} (hy : isB y l) (h4 : intT P xt = some false) (H : Hp) : aappended P H el [cell 0] xt y = some (l.length, l.map cell) := by
  obtain ⟨fu, rfl⟩ := hy
  have e := afirst_lst (H := H) (fu := fu) (sz := 1) (xs := l.map fun z => [cell z]) (n := l.length) (fun c hc => by obtain ⟨z, -, rfl⟩ := List.mem_map.1 hc; rfl) (by simp)
  simp only [aappended, h4, Option.bind_some, Bool.false_eq_true, if_false, alen_lst, List.length_map]
  rw [show ([cell 0] : List AV).length = 1 from rfl, e, cells_flat]; rfl
/-- To a literal of one byte. -/
theorem app_lit1 (h1 : elemOf? P t = some el) (h2 : zeroOf P el = some [cell 0]) (h3 : bytesOf P el = some 1) (h4 : intT P xt = some false) {y : AV} {l : List Int} (hy : isB y l) (hne : l ≠ []) (hl : l.length ≤ 1048576) (k : Int) (H : Hp) :
    aappend P H [t, xt] (.lst true [[.v (.int .u8 k)]]) y = some (.sl H.g 1 0 ([k] ++ l).length, H.new (([k] ++ l).map cell)) := by
  simp only [aappend, h1, h2, h3, Option.bind_some, happ_b hy h4]
  have hl0 : l.length ≠ 0 := fun e => hne (List.length_eq_zero_iff.1 e)
  rw [if_neg hl0, if_neg (by simp), if_pos ⟨by simp, roomy_1 (by simp; omega)⟩]
  simp [cell, Nat.add_comm]
/-- To bytes that fill their block. -/
theorem app_blk (h1 : elemOf? P t = some el) (h2 : zeroOf P el = some [cell 0]) (h3 : bytesOf P el = some 1) (h4 : intT P xt = some false) {y : AV} {l : List Int} (hy : isB y l) (hne : l ≠ []) (a : List Int) (hl : a.length + l.length ≤ 16777216) {H : Hp} {b n : Nat} (hb : H.h b = some (a.map cell)) (hn : n = a.length) :
    aappend P H [t, xt] (.sl b 1 0 n) y = some (.sl H.g 1 0 (a ++ l).length, (H.del b).new ((a ++ l).map cell)) := by
  subst hn
  simp only [aappend, h1, h2, h3, Option.bind_some, happ_b hy h4]
  have hl0 : l.length ≠ 0 := fun e => hne (List.length_eq_zero_iff.1 e)
  rw [if_neg hl0, if_neg (by simp), if_pos ⟨rfl, roomy_1 (by omega)⟩, hb]
  simp only [Option.bind_some, List.length_map, Nat.zero_add, Nat.mul_one]
  rw [if_pos (Nat.le_refl _), if_neg (by omega), List.drop_zero, List.take_of_length_le (by simp), List.map_append, List.length_append]
open Classical in
theorem app_blkI (h1 : elemOf? P t = some el) (h2 : zeroOf P el = some [cell 0]) (h3 : bytesOf P el = some 1) (h4 : intT P xt = some false) {y : AV} {l : List Int} (hy : isB y l) (hne : l ≠ []) (a : List Int) (hl : a.length + l.length ≤ 16777216) (H : Hp) (b n : Nat) :
    aappend P H [t, xt] (.sl b 1 0 n) y = if H.h b = some (a.map cell) ∧ n = a.length then some (.sl H.g 1 0 (a ++ l).length, (H.del b).new ((a ++ l).map cell)) else aappend' P H [t, xt] (.sl b 1 0 n) y := by
  split
  · rename_i h; exact app_blk h1 h2 h3 h4 hy hne a hl h.1 h.2
  · rfl
theorem setAll_at : ∀ (l : List AV) (a z : List AV), a.length + l.length ≤ (a ++ z).length → setAll (a ++ z) a.length l = a ++ (l ++ z.drop l.length) := by
  intro l
  induction l with
  | nil => intro a z _; rfl
  | cons x l ih =>
    intro a z h
    cases z with
    | nil => simp at h; omega
    | cons y z =>
      simp only [setAll]
      have e1 : (a ++ y :: z).set a.length x = (a ++ [x]) ++ z := by rw [List.set_append_right _ _ (Nat.le_refl _)]; simp
      have e2 : a.length + 1 = (a ++ [x]).length := by simp
      rw [e1, e2, ih (a ++ [x]) z (by simp at h ⊢; omega)]
      simp
/-- To bytes with room behind them. -/
theorem app_room (h1 : elemOf? P t = some el) (h2 : zeroOf P el = some [cell 0]) (h3 : bytesOf P el = some 1) (h4 : intT P xt = some false) {y : AV} {l : List Int} (hy : isB y l) (a z : List Int) (hl : l.length ≤ z.length) (hz : a.length + z.length ≤ 16777216) {H : Hp} {b n : Nat} (hb : H.h b = some ((a ++ z).map cell)) (hn : n = a.length) :
    aappend P H [t, xt] (.sl b 1 0 n) y = some (.sl b 1 0 (a ++ l).length, H.set b (((a ++ l) ++ z.drop l.length).map cell)) := by
  subst hn
  simp only [aappend, h1, h2, h3, Option.bind_some, happ_b hy h4]
  by_cases hl0 : l.length = 0
  · have e : l = [] := List.length_eq_zero_iff.1 hl0
    subst e
    simp only [List.length_nil, if_true, List.append_nil, List.drop_zero]
    rw [if_pos ⟨by simp, by simp [hb]⟩, Hp.set_id hb]
  · rw [if_neg hl0, if_neg (by simp), if_pos ⟨rfl, roomy_1 (by omega)⟩, hb]
    simp only [Option.bind_some, List.length_map, Nat.zero_add, Nat.mul_one, List.length_append]
    rw [if_pos (by omega), if_pos (by omega)]
    have e : setAll ((a ++ z).map cell) a.length (l.map cell) = ((a ++ l) ++ z.drop l.length).map cell := by
      have := setAll_at (l.map cell) (a.map cell) (z.map cell) (by simp; omega)
      simp only [List.length_map] at this
      rw [List.map_append, this]
      simp [List.map_append, List.map_drop]
    rw [e]
end

def capD : Option TypeDesc → AV → Option AV
  | some (.slice _), .v (.slice none _ c) => some (.v (.int .i64 c))
  | some (.slice _), .lst true xs => some (.v (.int .i64 xs.length))
  | some (.array n _), _ => some (.v (.int .i64 n))
  | _, _ => none
theorem b_cap {P : Program} (t : TypeId) (ts : List TypeId) (x : AV) : builtin0 P .cap (t :: ts) [x] = capD (P.underlying t) x := by
  simp only [builtin0]
  cases P.underlying t with
  | none => rfl
  | some d =>
    cases d <;> first
      | rfl
      | (cases x <;> first
          | rfl
          | (rename_i y; cases y <;> first | rfl | (rename_i a n c; cases a <;> rfl))
          | (rename_i fu xs; cases fu <;> rfl))
theorem capD_nil (e : TypeId) (n c : Nat) : capD (some (.slice e)) (.v (.slice none n c)) = some (.v (.int .i64 c)) := rfl
theorem capD_lst (e : TypeId) (xs : List (List AV)) : capD (some (.slice e)) (.lst true xs) = some (.v (.int .i64 xs.length)) := rfl
attribute [go_sem] b_cap capD_nil capD_lst

/-! An index into bytes, numbers, texts. -/
def ixB (P : Program) (l : List Int) : Option TypeDesc → Option Nat → Option AV
  | some (.slice el), some i => (l[i]?).bind fun z => if szOf P el = some 1 then some (.fp [.v (.int .u8 z)] 0) else none
  | _, _ => none
def ixI (P : Program) (l : List Int) : Option TypeDesc → Option Nat → Option AV
  | some (.slice el), some i => (l[i]?).bind fun z => if szOf P el = some 1 then some (.fp [.v (.int .i64 z)] 0) else none
  | _, _ => none
def ixT (P : Program) (l : List ByteArray) : Option TypeDesc → Option Nat → Option AV
  | some (.slice el), some i => (l[i]?).bind fun z => if szOf P el = some 1 then some (.fp [.v (.string z)] 0) else none
  | _, _ => none
theorem ixB_s (P : Program) (l : List Int) (el : TypeId) (i : Nat) : ixB P l (some (.slice el)) (some i) = (l[i]?).bind fun z => if szOf P el = some 1 then some (.fp [.v (.int .u8 z)] 0) else none := rfl
theorem ixI_s (P : Program) (l : List Int) (el : TypeId) (i : Nat) : ixI P l (some (.slice el)) (some i) = (l[i]?).bind fun z => if szOf P el = some 1 then some (.fp [.v (.int .i64 z)] 0) else none := rfl
theorem ixT_s (P : Program) (l : List ByteArray) (el : TypeId) (i : Nat) : ixT P l (some (.slice el)) (some i) = (l[i]?).bind fun z => if szOf P el = some 1 then some (.fp [.v (.string z)] 0) else none := rfl
theorem aix_B {P : Program} (H : Hp) (t : TypeId) (l : List Int) (i : AV) : aindexAddr P H t (bytesL l) i = ixB P l (P.underlying t) (natOf i) := by
  unfold bytesL
  rw [aix_lst]
  cases natOf i with
  | none => simp only [Option.bind_none]; cases P.underlying t with
    | none => rfl
    | some d => cases d <;> rfl
  | some n =>
    cases P.underlying t with
    | none => rfl
    | some d =>
      cases d <;> first | rfl | skip
      simp only [Option.bind_some, ixB_s, List.getElem?_map]
      cases l[n]? <;> rfl
theorem aix_I {P : Program} (H : Hp) (t : TypeId) (l : List Int) (i : AV) : aindexAddr P H t (i64L l) i = ixI P l (P.underlying t) (natOf i) := by
  unfold i64L
  rw [aix_lst]
  cases natOf i with
  | none => simp only [Option.bind_none]; cases P.underlying t with
    | none => rfl
    | some d => cases d <;> rfl
  | some n =>
    cases P.underlying t with
    | none => rfl
    | some d =>
      cases d <;> first | rfl | skip
      simp only [Option.bind_some, ixI_s, List.getElem?_map]
      cases l[n]? <;> rfl
theorem aix_T {P : Program} (H : Hp) (t : TypeId) (l : List ByteArray) (i : AV) : aindexAddr P H t (textsL l) i = ixT P l (P.underlying t) (natOf i) := by
  unfold textsL
  rw [aix_lst]
  cases natOf i with
  | none => simp only [Option.bind_none]; cases P.underlying t with
    | none => rfl
    | some d => cases d <;> rfl
  | some n =>
    cases P.underlying t with
    | none => rfl
    | some d =>
      cases d <;> first | rfl | skip
      simp only [Option.bind_some, ixT_s, List.getElem?_map]
      cases l[n]? <;> rfl
attribute [go_sem] ixB_s ixI_s ixT_s aix_B aix_I aix_T

/-! Slice expressions, as equations without conditions. -/
theorem bnd_some (e : Env) (d : Nat) (x : Operand) : bound e d (some x) = natOf (opd e x) := rfl
theorem bnd_none (e : Env) (d : Nat) : bound e d none = some d := rfl
def aslice' := aslice
def sliceB (l : List Int) (oa ob : Option Nat) : Option AV := oa.bind fun a => ob.bind fun b => if a ≤ b ∧ b ≤ l.length then some (bytesL ((l.drop a).take (b - a))) else none
def sliceF (l : List Int) (oa : Option Nat) : Option AV := oa.bind fun a => if a ≤ l.length then some (bytesL (l.drop a)) else none
def sliceN (oa ob : Option Nat) : Option AV := oa.bind fun a => ob.bind fun b => if a = 0 ∧ b = 0 then some (.v (.slice none 0 0)) else none
def sliceO (h : Option (List AV)) (b sz o : Nat) (oa ob : Option Nat) : Option AV := h.bind fun cs => oa.bind fun l => ob.bind fun r => if l ≤ r ∧ o + r * sz ≤ cs.length then some (.sl b sz (o + l * sz) (r - l)) else none
def sliceS (s : ByteArray) (oa ob : Option Nat) : Option AV := oa.bind fun l => ob.bind fun h => if l ≤ h ∧ h ≤ s.size then some (.v (.string (s.extract l h))) else none
def sliceR {α : Type} (enc : α → List AV) (xs : List α) (oa ob : Option Nat) : Option AV := oa.bind fun a => ob.bind fun b => if a ≤ b ∧ b ≤ xs.length then some (.lst false (((xs.drop a).take (b - a)).map enc)) else none
theorem sliceB_ss (l : List Int) (a b : Nat) : sliceB l (some a) (some b) = if a ≤ b ∧ b ≤ l.length then some (bytesL ((l.drop a).take (b - a))) else none := rfl
theorem sliceF_s (l : List Int) (a : Nat) : sliceF l (some a) = if a ≤ l.length then some (bytesL (l.drop a)) else none := rfl
theorem sliceN_ss (a b : Nat) : sliceN (some a) (some b) = if a = 0 ∧ b = 0 then some (.v (.slice none 0 0)) else none := rfl
theorem sliceO_ss (cs : List AV) (b sz o l r : Nat) : sliceO (some cs) b sz o (some l) (some r) = if l ≤ r ∧ o + r * sz ≤ cs.length then some (.sl b sz (o + l * sz) (r - l)) else none := rfl
theorem sliceS_ss (s : ByteArray) (l h : Nat) : sliceS s (some l) (some h) = if l ≤ h ∧ h ≤ s.size then some (.v (.string (s.extract l h))) else none := rfl
theorem sliceR_ss {α : Type} (enc : α → List AV) (xs : List α) (a b : Nat) : sliceR enc xs (some a) (some b) = if a ≤ b ∧ b ≤ xs.length then some (.lst false (((xs.drop a).take (b - a)).map enc)) else none := rfl
attribute [go_sem] bnd_some bnd_none sliceB_ss sliceF_s sliceN_ss sliceO_ss sliceS_ss sliceR_ss
section
variable {P : Program} {t el : TypeId}
theorem aslice_B (hu : P.underlying t = some (.slice el)) (hz : szOf P el = some 1) (H : Hp) (e : Env) (l : List Int) (lo : Option Operand) (hi : Operand) : aslice P H e t (bytesL l) lo (some hi) none = sliceB l (bound e 0 lo) (natOf (opd e hi)) := by
  have h3 : (l.map fun z => [cell z]).all (fun c => decide (c.length = 1)) = true := by simp
  simp only [aslice, hu, bytesL, hz, Option.bind_some, bnd_some, h3, true_and, List.length_map, sliceB]
  cases bound e 0 lo with
  | none => rfl
  | some a =>
    cases natOf (opd e hi) with
    | none => rfl
    | some b => simp [bytesL, List.map_drop, List.map_take]
theorem aslice_F (hu : P.underlying t = some (.slice el)) (hz : szOf P el = some 1) (H : Hp) (e : Env) (l : List Int) (lo : Option Operand) : aslice P H e t (bytesL l) lo none none = sliceF l (bound e 0 lo) := by
  have h3 : (l.map fun z => [cell z]).all (fun c => decide (c.length = 1)) = true := by simp
  simp only [aslice, hu, bytesL, hz, Option.bind_some, bnd_none, h3, true_and, List.length_map, sliceF]
  cases bound e 0 lo with
  | none => rfl
  | some a =>
    simp only [Option.bind_some, Nat.le_refl, and_true]
    split
    · rw [List.take_of_length_le (by simp)]
      simp [bytesL, List.map_drop]
    · rfl
theorem aslice_N (hu : P.underlying t = some (.slice el)) {z : Nat} (hz : szOf P el = some z) (H : Hp) (e : Env) (lo : Option Operand) (hi : Operand) : aslice P H e t (.v (.slice none 0 0)) lo (some hi) none = sliceN (bound e 0 lo) (natOf (opd e hi)) := by
  simp only [aslice, hu, hz, Option.bind_some, bnd_some, bnd_none, sliceN]
  cases bound e 0 lo with
  | none => rfl
  | some a =>
    cases natOf (opd e hi) with
    | none => rfl
    | some b => simp
theorem aslice_O (hu : P.underlying t = some (.slice el)) {sz : Nat} (hz : szOf P el = some sz) (h0 : 0 < sz) (H : Hp) (e : Env) (b o n : Nat) (lo : Option Operand) (hi : Operand) : aslice P H e t (.sl b sz o n) lo (some hi) none = sliceO (H.h b) b sz o (bound e 0 lo) (natOf (opd e hi)) := by
  simp only [aslice, hu, hz, Option.isNone_none, h0, and_self, if_true, bnd_some, sliceO]
theorem aslice_OF (hu : P.underlying t = some (.slice el)) {sz : Nat} (hz : szOf P el = some sz) (h0 : 0 < sz) (H : Hp) (e : Env) (b o n : Nat) (lo : Option Operand) : aslice P H e t (.sl b sz o n) lo none none = sliceO (H.h b) b sz o (bound e 0 lo) (some n) := by
  simp only [aslice, hu, hz, Option.isNone_none, h0, and_self, if_true, bnd_none, sliceO]
theorem aslice_S (hu : P.underlying t = some .string) (H : Hp) (e : Env) (s : ByteArray) (lo hi : Option Operand) : aslice P H e t (.v (.string s)) lo hi none = sliceS s (bound e 0 lo) (bound e s.size hi) := by
  simp only [aslice, hu, Option.isSome_none, Bool.false_eq_true, if_false, sliceS]
theorem aslice_R {α : Type} {enc : α → List AV} {sz : Nat} (hl : ∀ k, (enc k).length = sz) (hu : P.underlying t = some (.slice el)) (hz : szOf P el = some sz) (H : Hp) (e : Env) (xs : List α) (lo : Option Operand) (hi : Operand) : aslice P H e t (.lst false (xs.map enc)) lo (some hi) none = sliceR enc xs (bound e 0 lo) (natOf (opd e hi)) := by
  have h3 : (xs.map enc).all (fun c => decide (c.length = sz)) = true := by simp [hl]
  simp only [aslice, hu, hz, Option.bind_some, bnd_some, h3, true_and, List.length_map, sliceR]
  cases bound e 0 lo with
  | none => rfl
  | some a =>
    cases natOf (opd e hi) with
    | none => rfl
    | some b => simp [List.map_drop, List.map_take]
theorem aslice_RF {α : Type} {enc : α → List AV} {sz : Nat} (hl : ∀ k, (enc k).length = sz) (hu : P.underlying t = some (.slice el)) (hz : szOf P el = some sz) (H : Hp) (e : Env) (xs : List α) (lo : Option Operand) : aslice P H e t (.lst false (xs.map enc)) lo none none = sliceR enc xs (bound e 0 lo) (some xs.length) := by
  have h3 : (xs.map enc).all (fun c => decide (c.length = sz)) = true := by simp [hl]
  simp only [aslice, hu, hz, Option.bind_some, bnd_none, h3, true_and, List.length_map, sliceR]
  cases bound e 0 lo with
  | none => rfl
  | some a => simp [List.map_drop, List.map_take]
end

/-- A part of a result: what it reads as, that it is clean, and where it lies. -/
def GivesF (n : Nat) (t x : AV) (H : Hp) : Prop := deep H n x = some t ∧ clean H n x = true ∧ ∃ fp, fpt H n x = some fp ∧ fp.Nodup
theorem gF_nil (n : Nat) (H : Hp) : GivesF (n + 1) (.lst false []) (.v (.slice none 0 0)) H := ⟨rfl, rfl, [], rfl, List.nodup_nil⟩
theorem gF_lst0 (n : Nat) (H : Hp) : GivesF (n + 1) (.lst false []) (.lst false []) H := ⟨rfl, rfl, [], rfl, List.nodup_nil⟩
theorem gF_lstT (n : Nat) (H : Hp) : GivesF (n + 1) (.lst false []) (.lst true []) H := ⟨rfl, rfl, [], rfl, List.nodup_nil⟩
theorem gF_bytes {n : Nat} {H : Hp} {b k : Nat} {l : List Int} (hb : H.h b = some (l.map cell)) (hk : k = l.length) : GivesF (n + 2) (bytesL l) (.sl b 1 0 k) H := by
  subst hk
  have hd : deep H (n + 2) (.sl b 1 0 l.length) = some (bytesL l) := by
    refine deep_sl (by rw [cells_flat]; exact hb) (by omega) (fun x hx => ?_) (by simp) (fun c hc x hx => ?_)
    · obtain ⟨z, -, rfl⟩ := List.mem_map.1 hx; rfl
    · obtain ⟨z, -, rfl⟩ := List.mem_map.1 hc
      simp at hx; subst hx; rfl
  refine ⟨hd, ?_, ?_⟩
  · have e : clean H (n + 2) (.sl b 1 0 l.length) = ((((H.h b).getD []).drop 0).take (l.length * 1)).all (clean H (n + 1)) := rfl
    rw [e, hb, Option.getD_some, List.drop_zero, List.all_eq_true]; intro x hx
    obtain ⟨z, -, rfl⟩ := List.mem_map.1 (List.mem_of_mem_take hx); rfl
  · obtain ⟨fp, a1, a2, -⟩ := fpt_flat (d := n + 1) hb (sz := 1) (o := 0) (n := l.length) (fun c hc => by obtain ⟨z, -, rfl⟩ := List.mem_map.1 hc; rfl)
    exact ⟨fp, a1, a2⟩
/-- A struct of plain cells and one part at its end. -/
theorem gF_agg {n : Nat} {H : Hp} {t x : AV} (h : GivesF (n + 1) t x H) (cs : List AV) (hc : ∀ c ∈ cs, ∃ y, c = .v y ∧ Plain y) : GivesF (n + 2) (.agg (cs ++ [t])) (.agg (cs ++ [x])) H := by
  obtain ⟨h1, h2, fp, h3, h4⟩ := h
  have key : (cs ++ [x]).mapM (deep H (n + 1)) = some (cs ++ [t]) ∧ (cs ++ [x]).all (clean H (n + 1)) = true ∧ ∃ fps, (cs ++ [x]).mapM (fpt H (n + 1)) = some fps ∧ fps.flatten = fp := by
    clear h4
    induction cs with
    | nil => exact ⟨mapM_c h1 mapM_n, by simp [h2], [fp], mapM_cons_some.2 ⟨_, _, h3, rfl, rfl⟩, by simp⟩
    | cons c cs ih =>
      obtain ⟨i1, i2, fps, i3, i4⟩ := ih fun c hc' => hc c (by simp [hc'])
      obtain ⟨y, rfl, hy⟩ := hc c (by simp)
      refine ⟨mapM_c (hy H n) i1, ?_, [] :: fps, mapM_cons_some.2 ⟨_, _, rfl, i3, rfl⟩, by simpa using i4⟩
      simp only [List.cons_append, List.all_cons, i2, Bool.and_true]; rfl
  obtain ⟨k1, k2, fps, k3, k4⟩ := key
  refine ⟨deep_aggL k1, k2, fp, ?_, h4⟩
  show ((cs ++ [x]).mapM (fpt H (n + 1))).map List.flatten = some fp
  rw [k3, ← k4]; rfl
/-- A tuple of a part and a plain value. -/
theorem gF_tup {n : Nat} {H : Hp} {t x : AV} (h : GivesF (n + 1) t x H) {y : Value} (hy : Plain y) : GivesF (n + 2) (.tup [t, .v y]) (.tup [x, .v y]) H := by
  obtain ⟨h1, h2, fp, h3, h4⟩ := h
  refine ⟨?_, ?_, fp, ?_, h4⟩
  · show ([x, .v y].mapM (deep H (n + 1))).map AV.tup = _
    rw [mapM_c h1 (mapM_c (hy H n) mapM_n)]; rfl
  · show [x, .v y].all (clean H (n + 1)) = true
    simp only [List.all_cons, List.all_nil, h2, Bool.true_and, Bool.and_true]; rfl
  · show ([x, .v y].mapM (fpt H (n + 1))).map List.flatten = some fp
    rw [mapM_cons_some.2 ⟨_, _, h3, mapM_cons_some.2 ⟨_, _, rfl, rfl, rfl⟩, rfl⟩]; simp
theorem gF_O {t x : AV} {H : Hp} (h : GivesF depthD t x H) : GivesO t x H := ⟨⟨h.1, h.2.1⟩, h.2.2⟩
theorem gF_of_O {t x : AV} {H : Hp} (h : GivesO t x H) : GivesF depthD t x H := ⟨h.1.1, h.1.2, h.2⟩
/-- A list in block b whose rows are laid below it, or above it. -/
theorem gF_rows {H : Hp} {n d m sz b lo hi : Nat} {rows : List (List AV)} {zs : List AV} (h : Laid H lo hi rows.flatten zs) (hb : H.h b = some zs) (hlo : b < lo ∨ hi ≤ b) (hn : n ≤ d) (hm : m = rows.length) (hsz : 0 < sz) (hs : ∀ c ∈ rows, c.length = sz) (hg : ∀ c ∈ rows, ∀ t ∈ c, MatG n t) : GivesF (d + 1) (.lst false rows) (.sl b sz 0 m) H := by
  subst hm
  have hg' : ∀ t ∈ rows.flatten, MatG n t := fun t ht => by obtain ⟨c, hc, ht⟩ := List.mem_flatten.1 ht; exact hg c hc t ht
  obtain ⟨h1, fps, h2, h3, h4⟩ := h.deep n d hg' hn
  have h5 := h.clean n d hg' hn
  have hl : zs.length = rows.length * sz := by rw [h.len, flat_len sz rows hs]
  have htk : (zs.drop 0).take (rows.length * sz) = zs := by rw [List.drop_zero, List.take_of_length_le (by omega)]
  refine ⟨?_, ?_, ?_⟩
  · simp only [Eng.deep, hb, Option.bind_some]
    rw [if_pos ⟨by omega, hsz⟩, htk, h1]
    simp only [Option.map_some]
    rw [chunk_flat' sz rows hs]
  · have e : Eng.clean H (d + 1) (.sl b sz 0 rows.length) = ((((H.h b).getD []).drop 0).take (rows.length * sz)).all (Eng.clean H d) := rfl
    rw [e, hb, Option.getD_some, List.drop_zero, List.take_of_length_le (Nat.le_of_eq hl), h5]
  · simp only [fpt, hb, Option.bind_some]
    split
    · exact ⟨[], rfl, List.nodup_nil⟩
    · rw [htk, h2]
      exact ⟨_, rfl, List.nodup_cons.2 ⟨fun hm => by have := h4 b hm; omega, h3⟩⟩
/-- The same where the rows are held by a list that is being gathered. -/
theorem gF_racc {H : Hp} {n d m sz lo hi : Nat} {rows : List (List AV)} {zs : List AV} {x : AV} (h : Laid H lo hi rows.flatten zs) (ha : RAcc H x sz zs m) (hx : ∀ b, lo ≤ b → b < hi → Off b x) (hn : n ≤ d) (hm : m = rows.length) (hsz : 0 < sz) (hs : ∀ c ∈ rows, c.length = sz) (hg : ∀ c ∈ rows, ∀ t ∈ c, MatG n t) : GivesF (d + 1) (.lst false rows) x H := by
  rcases ha.2 with ⟨h0, e⟩ | ⟨b, hb, rfl, hh⟩
  · have e0 : rows = [] := List.length_eq_zero_iff.1 (by omega)
    subst e0
    rcases e with rfl | rfl
    · exact gF_lstT _ _
    · exact gF_nil _ _
  · refine gF_rows h hh ?_ hn hm hsz hs hg
    by_cases hc : b < lo ∨ hi ≤ b
    · exact hc
    · exact absurd rfl (hx b (by omega) (by omega) sz 0 m)
/-- A laid tuple of a struct and a plain value. -/
theorem mat_tupQ {n : Nat} {ts : List AV} {y : Value} {H : Hp} {q : Option (AV × Hp)} (hq : mat depthD (.tup [.agg ts, .v y]) H = q) (hg : ∀ t ∈ ts, MatG n t) (hn : n ≤ 10) : ∃ zs H', q = some (.tup [.agg zs, .v y], H') ∧ Ext H H' ∧ Laid H' H.g H'.g ts zs := by
  obtain ⟨zs, H', h1, h2, h3⟩ := mat_lay n 10 hn ts hg H
  refine ⟨zs, H', ?_, h2, h3⟩
  rw [← hq]
  show ((matL (mat 11) [.agg ts, .v y] H).map fun q => (AV.tup q.1, q.2)) = _
  have e : mat 11 (.agg ts) H = some (.agg zs, H') := by
    show ((matL (mat 10) ts H).map fun q => (AV.agg q.1, q.2)) = _
    rw [h1]; rfl
  simp only [matL, e, Option.bind_some, mat_v, Option.map_some]
end Go.Proofs.YtepnlhjafgomgaaDoor.Eng
