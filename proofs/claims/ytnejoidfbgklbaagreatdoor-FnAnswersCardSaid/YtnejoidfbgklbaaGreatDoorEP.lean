/- The engine, part 20: the rules of a reckoning, in bundles. The engine, part 21: numbers and lists in a reckoning. The engine, part 22: arguments in their one form, and their weight. The engine, part 23: sizes of arguments; whole numbers in lists; parts of structs. -/
import Derived.Test.YtnejoidfbgklbaaGreatDoorE19
namespace Go.Proofs.YtnejoidfbgklbaaGreatDoor.Eng
open Go
set_option linter.unusedSimpArgs false
set_option linter.unusedVariables false

theorem nil_g : Hp.nil.g = 0 := rfl
theorem nil_h (b : Nat) : Hp.nil.h b = none := rfl
theorem new_same (H : Hp) (cs : List AV) : (H.new cs).h H.g = some cs := by simp [Hp.new]
theorem envOf_0 (a : AV) (as : List AV) : envOf (a :: as) 0 = a := rfl
theorem envOf_1 (a b : AV) (as : List AV) : envOf (a :: b :: as) 1 = b := rfl
theorem envOf_2 (a b c : AV) (as : List AV) : envOf (a :: b :: c :: as) 2 = c := rfl
theorem envOf_3 (a b c d : AV) (as : List AV) : envOf (a :: b :: c :: d :: as) 3 = d := rfl
theorem envOf_4 (a b c d f : AV) (as : List AV) : envOf (a :: b :: c :: d :: f :: as) 4 = f := rfl
theorem envOf_5 (a b c d f g : AV) (as : List AV) : envOf (a :: b :: c :: d :: f :: g :: as) 5 = g := rfl
theorem envOf_6 (a b c d f g h : AV) (as : List AV) : envOf (a :: b :: c :: d :: f :: g :: h :: as) 6 = h := rfl
theorem bq_tt : (true == true) = true := rfl
theorem bq_ff : (false == false) = true := rfl
theorem bq_tf : (true == false) = false := rfl
theorem bq_ft : (false == true) = false := rfl
attribute [go_sem] bq_tt bq_ff bq_tf bq_ft
theorem lap_c {α : Type} (a : α) (xs bs : List α) : List.append (a :: xs) bs = a :: List.append xs bs := rfl
theorem lap_n {α : Type} (bs : List α) : List.append [] bs = bs := rfl
attribute [go_sem] lap_c lap_n op_mkI
attribute [go_sem] asteps_guardL guardL_tt guardL_ff guardL_tf guardL_ft guardL_un gOf gOf.gDst op_callv callV_fn List.getElem?_toArray List.append_nil op_buildSlice op_nilCheck op_pick op_makeFunc bs_0 bs_1i bs_2i chunk_0 chunk_one1 chunk_one2 chunk_one3 lit_i asteps_nil asteps_one thenE_some withH_some anyH_some op_move op_assign op_alloc op_box op_build op_load op_store op_unOp op_convert op_makeSlice op_slice
attribute [go_sem] astepsF_nil astepsF_one astepsF_guard guardF_tt guardF_ff guardF_tf guardF_ft guardF_un thenF_some kF_nil kF_one one_h hF_t hF_f bF_t bF_f frQ frK_load frK_conv frK_slice frK_index Bool.false_and Bool.true_and
attribute [go_sem] op_fieldAddr op_field op_indexAddr op_index op_extract op_binOp op_call op_builtin upd_eq put_some put_none opd_tmp opd_int
attribute [go_sem] opd_bool opd_string opd_slice opd_pointer opd_agg opd_func nil_g nil_h Hp.new_g Hp.set_g Hp.del_g Hp.new_h Hp.set_h Hp.del_h
theorem nilCmp_int (k : Nat) (k1 k2 : IntKind) (a b : Int) : nilCmp k (.v (.int k1 a)) (.v (.int k2 b)) = none := by unfold nilCmp; split <;> simp_all
theorem nilCmp_str (k : Nat) (a b : ByteArray) : nilCmp k (.v (.string a)) (.v (.string b)) = none := by unfold nilCmp; split <;> simp_all
theorem nilCmp_bool (k : Nat) (a b : Bool) : nilCmp k (.v (.bool a)) (.v (.bool b)) = none := by unfold nilCmp; split <;> simp_all
section
variable {P : Program}
theorem abinX_ii (op : BinOp) (t : TypeId) (k1 k2 : IntKind) (a b : Int) : abinX P op t (.v (.int k1 a)) (.v (.int k2 b)) = (abinV op (.int k1 a) (.int k2 b)).map .v := by
  unfold abinX; rw [nilCmp_int]; rfl
theorem abinX_ss (op : BinOp) (t : TypeId) (a b : ByteArray) : abinX P op t (.v (.string a)) (.v (.string b)) = (abinV op (.string a) (.string b)).map .v := by
  unfold abinX; rw [nilCmp_str]; rfl
theorem abinX_bb (op : BinOp) (t : TypeId) (a b : Bool) : abinX P op t (.v (.bool a)) (.v (.bool b)) = abin P op t (.v (.bool a)) (.v (.bool b)) := by
  unfold abinX; rw [nilCmp_bool]
theorem abinX_sl (op : BinOp) (t : TypeId) (x : AV) (n c : Nat) : abinX P op t x (.v (.slice none n c)) = match nilCmp (nilT P t) x (.v (.slice none n c)) with
  | some b => (eqOp op).map fun q => .v (.bool (if q then b else !b))
  | none => abin P op t x (.v (.slice none n c)) := rfl
theorem abinX_pt (op : BinOp) (t : TypeId) (x : AV) : abinX P op t x (.v (.pointer none)) = match nilCmp (nilT P t) x (.v (.pointer none)) with
  | some b => (eqOp op).map fun q => .v (.bool (if q then b else !b))
  | none => abin P op t x (.v (.pointer none)) := rfl
end
attribute [go_sem] abinX_ii abinX_ss abinX_bb abinX_sl abinX_pt abinQ_tmp abinQ_int abinQ_bool abinQ_string abinQ_slice abinQ_pointer abinQ_agg abinQ_nil
theorem okc_int (k : IntKind) (z : Int) : okc (.v (.int k z)) = true := rfl
theorem okc_bool (b : Bool) : okc (.v (.bool b)) = true := rfl
theorem okc_string (b : ByteArray) : okc (.v (.string b)) = true := rfl
theorem okc_slice (a : Option Addr) (n c : Nat) : okc (.v (.slice a n c)) = true := rfl
theorem okc_pointer (a : Option Addr) : okc (.v (.pointer a)) = true := rfl
theorem okc_lst (fu : Bool) (xs : List (List AV)) : okc (.lst fu xs) = true := rfl
theorem okc_fp (cs : List AV) (o : Nat) : okc (.fp cs o) = true := rfl
theorem okc_sl (b sz o n : Nat) : okc (.sl b sz o n) = true := rfl
theorem okc_ptr (b o : Nat) : okc (.ptr b o) = true := rfl
theorem okc_fn (f : Nat) (cs : List AV) : okc (.fn f cs) = true := rfl
theorem asC_agg (cs : List AV) : asCells (.agg cs) = some cs := rfl
theorem asC_int (k : IntKind) (z : Int) : asCells (.v (.int k z)) = some [.v (.int k z)] := rfl
theorem asC_bool (b : Bool) : asCells (.v (.bool b)) = some [.v (.bool b)] := rfl
theorem asC_string (b : ByteArray) : asCells (.v (.string b)) = some [.v (.string b)] := rfl
theorem asC_slice (a : Option Addr) (n c : Nat) : asCells (.v (.slice a n c)) = some [.v (.slice a n c)] := rfl
theorem asC_pointer (a : Option Addr) : asCells (.v (.pointer a)) = some [.v (.pointer a)] := rfl
theorem asC_lst (fu : Bool) (xs : List (List AV)) : asCells (.lst fu xs) = some [.lst fu xs] := rfl
theorem asC_fp (cs : List AV) (o : Nat) : asCells (.fp cs o) = some [.fp cs o] := rfl
theorem asC_sl (b sz o n : Nat) : asCells (.sl b sz o n) = some [.sl b sz o n] := rfl
theorem asC_ptr (b o : Nat) : asCells (.ptr b o) = some [.ptr b o] := rfl
theorem asC_fn (f : Nat) (cs : List AV) : asCells (.fn f cs) = some [.fn f cs] := rfl
attribute [go_sem] okc_int okc_bool okc_string okc_slice okc_pointer okc_lst okc_fp okc_sl okc_ptr okc_fn asC_agg asC_int asC_bool asC_string asC_slice asC_pointer asC_lst asC_fp asC_sl asC_ptr asC_fn
attribute [go_sem] envOf_0 envOf_1 envOf_2 envOf_3 envOf_4 envOf_5 envOf_6 aload astore ldc setAll afill aparts abuild abin abinV nilCmp eqOp exact2 aunary
attribute [go_sem] afieldAddr afield apart aextract aindex alen builtinOp b_len lenD_nil lenD_str lenD_lst lenD_sl lenD_arr b_max b_min amakeSlice Value.oneCell' Option.bind_some Option.map_some
attribute [go_sem] Option.getD_some List.map_cons List.map_nil List.all_cons List.all_nil List.length_cons List.length_nil List.getElem?_cons_zero List.getElem?_cons_succ
attribute [go_sem] List.drop_succ_cons List.drop_zero List.take_succ_cons List.take_zero List.set_cons_zero List.set_cons_succ Bool.and_self Bool.and_true
attribute [go_sem] Bool.true_and and_self and_true true_and if_true if_false ne_eq not_false_eq_true Nat.le_refl
attribute [go_sem] Bool.false_eq_true Bool.not_true Bool.not_false decide_eq_true_eq
section
variable {P : Program}
theorem aix_lst (H : Hp) (t : TypeId) (fu : Bool) (xs : List (List AV)) (i : AV) : aindexAddr P H t (.lst fu xs) i = (natOf i).bind fun i => match P.underlying t with
    | some (.slice el) => (xs[i]?).bind fun c => if szOf P el = some c.length then some (.fp c 0) else none
    | _ => none := by
  unfold aindexAddr
  cases natOf i with
  | none => rfl
  | some i =>
    cases P.underlying t with
    | none => rfl
    | some d => cases d <;> rfl
theorem aix_sl (H : Hp) (t : TypeId) (b sz o n : Nat) (i : AV) : aindexAddr P H t (.sl b sz o n) i = (natOf i).bind fun i => match P.underlying t with
    | some (.slice el) => if szOf P el = some sz ∧ i < n ∧ (H.h b).isSome then some (.ptr b (o + i * sz)) else none
    | _ => none := by
  unfold aindexAddr
  cases natOf i with
  | none => rfl
  | some i =>
    cases P.underlying t with
    | none => rfl
    | some d => cases d <;> rfl
theorem aix_ptr (H : Hp) (t : TypeId) (b o : Nat) (i : AV) : aindexAddr P H t (.ptr b o) i = (natOf i).bind fun i => match P.underlying t with
    | some (.array m el) => (szOf P el).bind fun sz => if i < m then some (.ptr b (o + i * sz)) else none
    | _ => none := by
  unfold aindexAddr
  cases natOf i with
  | none => rfl
  | some i =>
    cases P.underlying t with
    | none => rfl
    | some d => cases d <;> rfl
theorem aix_fp (H : Hp) (t : TypeId) (cs : List AV) (o : Nat) (i : AV) : aindexAddr P H t (.fp cs o) i = (natOf i).bind fun i => match P.underlying t with
    | some (.array m el) => (szOf P el).bind fun sz => if i < m then some (.fp cs (o + i * sz)) else none
    | _ => none := by
  unfold aindexAddr
  cases natOf i with
  | none => rfl
  | some i =>
    cases P.underlying t with
    | none => rfl
    | some d => cases d <;> rfl
end
attribute [go_sem] aix_lst aix_sl aix_ptr aix_fp
end Go.Proofs.YtnejoidfbgklbaaGreatDoor.Eng
namespace Go.Proofs.YtnejoidfbgklbaaGreatDoor.Eng
open Go
set_option linter.unusedSimpArgs false
set_option linter.unusedVariables false

theorem natOf_nat (k : IntKind) (n : Nat) : natOf (.v (.int k (n : Int))) = some n := by simp [natOf]
theorem natOf_zero (k : IntKind) : natOf (.v (.int k 0)) = some 0 := by simp [natOf]
theorem wrap_i64 {z : Int} (h1 : -9223372036854775808 ≤ z) (h2 : z ≤ 9223372036854775807) : IntKind.wrap .i64 z = z := by
  simp [IntKind.wrap, IntKind.bits, IntKind.signed]; omega
theorem wrap_u8 {z : Int} (h1 : 0 ≤ z) (h2 : z ≤ 255) : IntKind.wrap .u8 z = z := by
  simp [IntKind.wrap, IntKind.bits, IntKind.signed]; omega
theorem wrap_succ {n : Nat} (h : n < 9223372036854775807) : IntKind.wrap .i64 ((n : Int) + 1) = ((n + 1 : Nat) : Int) := by
  rw [wrap_i64 (by omega) (by omega)]; simp
theorem natOf_one (k : IntKind) : natOf (.v (.int k 1)) = some 1 := by simp [natOf]
theorem natOf_c2 (k : IntKind) : natOf (.v (.int k 2)) = some 2 := by simp [natOf]
theorem natOf_c3 (k : IntKind) : natOf (.v (.int k 3)) = some 3 := by simp [natOf]
theorem natOf_c4 (k : IntKind) : natOf (.v (.int k 4)) = some 4 := by simp [natOf]
theorem natOf_c5 (k : IntKind) : natOf (.v (.int k 5)) = some 5 := by simp [natOf]
theorem natOf_c6 (k : IntKind) : natOf (.v (.int k 6)) = some 6 := by simp [natOf]
theorem natOf_c7 (k : IntKind) : natOf (.v (.int k 7)) = some 7 := by simp [natOf]
theorem natOf_c8 (k : IntKind) : natOf (.v (.int k 8)) = some 8 := by simp [natOf]
theorem natOf_c9 (k : IntKind) : natOf (.v (.int k 9)) = some 9 := by simp [natOf]
theorem natOf_c10 (k : IntKind) : natOf (.v (.int k 10)) = some 10 := by simp [natOf]
theorem natOf_c11 (k : IntKind) : natOf (.v (.int k 11)) = some 11 := by simp [natOf]
theorem natOf_c12 (k : IntKind) : natOf (.v (.int k 12)) = some 12 := by simp [natOf]
theorem natOf_c13 (k : IntKind) : natOf (.v (.int k 13)) = some 13 := by simp [natOf]
theorem natOf_c14 (k : IntKind) : natOf (.v (.int k 14)) = some 14 := by simp [natOf]
theorem natOf_c15 (k : IntKind) : natOf (.v (.int k 15)) = some 15 := by simp [natOf]
theorem natOf_c16 (k : IntKind) : natOf (.v (.int k 16)) = some 16 := by simp [natOf]
theorem natOf_c32 (k : IntKind) : natOf (.v (.int k 32)) = some 32 := by simp [natOf]
theorem natOf_c64 (k : IntKind) : natOf (.v (.int k 64)) = some 64 := by simp [natOf]
attribute [go_sem] natOf_nat natOf_zero natOf_one natOf_c2 natOf_c3 natOf_c4 natOf_c5 natOf_c6 natOf_c7 natOf_c8 natOf_c9 natOf_c10 natOf_c11 natOf_c12 natOf_c13 natOf_c14 natOf_c15 natOf_c16 natOf_c32 natOf_c64
theorem roomy_of {n b : Nat} (hn : n ≤ 70368744177664) (hb : n * b ≤ 70368744177664) : roomy n b = true := by simp [roomy, hn, hb]
theorem roomy_1 {n : Nat} (hn : n ≤ 70368744177664) : roomy n 1 = true := roomy_of hn (by omega)

/-- Stands for itself: of nothing but what is only read, in its one form. -/
def Fz (n : Nat) (x : AV) : Prop := (∀ H, deep H n x = some x) ∧ hasRefs n x = false
theorem mapM_self {f : AV → Option AV} : ∀ {l : List AV}, (∀ x ∈ l, f x = some x) → l.mapM f = some l := by
  intro l
  induction l with
  | nil => intro _; rfl
  | cons a l ih =>
    intro h
    simp only [List.mapM_cons, h a (by simp), ih fun x hx => h x (by simp [hx])]; rfl
theorem mapM_self2 {f : List AV → Option (List AV)} : ∀ {l : List (List AV)}, (∀ x ∈ l, f x = some x) → l.mapM f = some l := by
  intro l
  induction l with
  | nil => intro _; rfl
  | cons a l ih =>
    intro h
    simp only [List.mapM_cons, h a (by simp), ih fun x hx => h x (by simp [hx])]; rfl
theorem Fz.int (n : Nat) (k : IntKind) (z : Int) : Fz (n + 1) (.v (.int k z)) := ⟨fun _ => rfl, rfl⟩
theorem Fz.bool (n : Nat) (b : Bool) : Fz (n + 1) (.v (.bool b)) := ⟨fun _ => rfl, rfl⟩
theorem Fz.string (n : Nat) (b : ByteArray) : Fz (n + 1) (.v (.string b)) := ⟨fun _ => rfl, rfl⟩
theorem Fz.lst {n : Nat} {xs : List (List AV)} (h : ∀ c ∈ xs, ∀ x ∈ c, Fz n x) : Fz (n + 1) (.lst false xs) := by
  constructor
  · intro H
    simp only [deep]
    rw [mapM_self2 fun c hc => mapM_self fun x hx => (h c hc x hx).1 H]; rfl
  · simp only [hasRefs]
    rw [List.any_eq_false]; intro c hc
    simp only [Bool.not_eq_true]
    rw [List.any_eq_false]; intro x hx
    simp [(h c hc x hx).2]
theorem Fz.agg {n : Nat} {xs : List AV} (h : ∀ x ∈ xs, Fz n x) : Fz (n + 1) (.agg xs) := by
  constructor
  · intro H
    simp only [deep]
    rw [mapM_self fun x hx => (h x hx).1 H]; rfl
  · simp only [hasRefs]
    rw [List.any_eq_false]; intro x hx
    simp [(h x hx).2]
theorem chunk_flat (sz : Nat) : ∀ (xs : List (List AV)), (∀ x ∈ xs, x.length = sz) → chunk sz xs.length xs.flatten = xs := by
  intro xs
  induction xs with
  | nil => intro _; rfl
  | cons x xs ih =>
    intro h
    have hx := h x (by simp)
    simp only [List.length_cons, chunk, List.flatten_cons]
    rw [List.take_left' hx, List.drop_left' hx, ih fun y hy => h y (by simp [hy])]
theorem flat_len (sz : Nat) : ∀ (xs : List (List AV)), (∀ x ∈ xs, x.length = sz) → xs.flatten.length = xs.length * sz := by
  intro xs
  induction xs with
  | nil => intro _; simp
  | cons x xs ih =>
    intro h
    simp only [List.flatten_cons, List.length_append, List.length_cons, ih fun y hy => h y (by simp [hy]), h x (by simp), Nat.add_mul]
    omega
theorem deep_sl {n sz b k : Nat} {H : Hp} {xs : List (List AV)} (hb : H.h b = some xs.flatten) (hsz : 0 < sz) (hs : ∀ x ∈ xs, x.length = sz) (hk : k = xs.length) (hz : ∀ c ∈ xs, ∀ x ∈ c, deep H n x = some x) : deep H (n + 1) (.sl b sz 0 k) = some (.lst false xs) := by
  subst hk
  have hlen := flat_len sz xs hs
  simp only [deep, hb, Option.bind_some, Nat.zero_add, List.drop_zero]
  rw [if_pos ⟨by omega, hsz⟩, List.take_of_length_le (by omega), mapM_self fun x hx => by
    obtain ⟨c, hc, hx⟩ := List.mem_flatten.1 hx
    exact hz c hc x hx]
  simp only [Option.map_some, chunk_flat sz xs hs]

/-! Bytes. -/
def cell (z : Int) : AV := .v (.int .u8 z)
def bytesL (l : List Int) : AV := .lst false (l.map fun z => [cell z])
theorem asCells_cell (z : Int) : asCells (cell z) = some [cell z] := rfl
theorem okc_cell (z : Int) : okc (cell z) = true := rfl
attribute [go_sem] asCells_cell okc_cell
theorem lenD_bytes (e : TypeId) (l : List Int) : lenD (some (.slice e)) (bytesL l) = some (.v (.int .i64 l.length)) := by simp [lenD, bytesL]
attribute [go_sem] lenD_bytes
theorem bytesL_fz (n : Nat) (l : List Int) : Fz (n + 2) (bytesL l) := Fz.lst fun c hc x hx => by
  obtain ⟨z, -, rfl⟩ := List.mem_map.1 hc
  simp at hx; subst hx; exact Fz.int _ _ _
theorem cells_flat (l : List Int) : (l.map fun z => [cell z]).flatten = l.map cell := by
  induction l with
  | nil => rfl
  | cons a l ih => simp [ih]
def strOf (l : List Int) : ByteArray := ⟨(l.map fun z => UInt8.ofNat z.toNat).toArray⟩
theorem bytesIn_cells (l : List Int) : bytesIn (l.map cell) = some (l.map fun z => UInt8.ofNat z.toNat) := by
  induction l with
  | nil => rfl
  | cons a l ih => simp only [List.map_cons, cell, bytesIn] at ih ⊢; rw [ih]; rfl
end Go.Proofs.YtnejoidfbgklbaaGreatDoor.Eng
namespace Go.Proofs.YtnejoidfbgklbaaGreatDoor.Eng
open Go Go.RowKit
set_option linter.unusedSimpArgs false
set_option linter.unusedVariables false

section
variable (P : Program)
def fieldTs (t : TypeId) : Option (List TypeId) := match P.underlying t with
  | some (.struct fs) => some (fs.toList.map (·.type))
  | _ => none
def PartsT (S : TypeId → List AV → Prop) : List TypeId → List AV → Prop
  | [], xs => xs = []
  | t :: ts, xs => ∃ a b, xs = a ++ b ∧ S t a ∧ PartsT S ts b
/-- The cells of a value of a type, in their one form: no slice is told to be nil. -/
def ShC (B : Nat → Nat → Prop) : Nat → TypeId → List AV → Prop
  | 0, _, _ => False
  | n + 1, t, xs => match P.underlying t with
    | some .bool => ∃ b, xs = [.v (.bool b)]
    | some (.int k) => ∃ z, xs = [.v (.int k z)] ∧ (Lit.int k z).wf = true
    | some .string => ∃ s : ByteArray, xs = [.v (.string s)] ∧ B s.size 1
    | some (.slice e) => ∃ ys, xs = [.lst false ys] ∧ B ys.length (P.bytesOf e) ∧ ∀ c ∈ ys, ShC B n e c
    | some (.struct fs) => PartsT (ShC B n) (fs.toList.map (·.type)) xs
    | _ => False
def ArgC (B : Nat → Nat → Prop) (n : Nat) (t : TypeId) (a : AV) : Prop := match aggT P t with
  | some true => ∃ xs, a = .agg xs ∧ ShC P B n t xs
  | _ => ShC P B n t [a]
def ArgsC (B : Nat → Nat → Prop) (n : Nat) : List TypeId → List AV → Prop
  | [], xs => xs = []
  | t :: ts, xs => ∃ a r, xs = a :: r ∧ ArgC P B n t a ∧ ArgsC B n ts r
end

section
variable {P : Program} {B : Nat → Nat → Prop}
theorem shC_bool {n : Nat} {t : TypeId} {xs : List AV} (hu : P.underlying t = some .bool) : ShC P B (n + 1) t xs ↔ ∃ b, xs = [.v (.bool b)] := by unfold ShC; rw [hu]
theorem shC_int {n : Nat} {t : TypeId} {k : IntKind} {xs : List AV} (hu : P.underlying t = some (.int k)) : ShC P B (n + 1) t xs ↔ ∃ z, xs = [.v (.int k z)] ∧ k.min ≤ z ∧ z ≤ k.max := by
  unfold ShC; rw [hu]; simp [Lit.wf]
theorem shC_string {n : Nat} {t : TypeId} {xs : List AV} (hu : P.underlying t = some .string) : ShC P B (n + 1) t xs ↔ ∃ s : ByteArray, xs = [.v (.string s)] ∧ B s.size 1 := by unfold ShC; rw [hu]
theorem shC_slice {n : Nat} {t e : TypeId} {xs : List AV} (hu : P.underlying t = some (.slice e)) : ShC P B (n + 1) t xs ↔ ∃ ys, xs = [.lst false ys] ∧ B ys.length (P.bytesOf e) ∧ ∀ c ∈ ys, ShC P B n e c := by
  rw [ShC]; rw [hu]
theorem shC_struct {n : Nat} {t : TypeId} {ts : List TypeId} {xs : List AV} (hu : fieldTs P t = some ts) : ShC P B (n + 1) t xs ↔ PartsT (ShC P B n) ts xs := by
  unfold fieldTs at hu
  split at hu
  · rename_i fs h
    simp only [Option.some.injEq] at hu; subst hu
    rw [ShC]; rw [h]
  · simp at hu

theorem mapM_append {f : AV → Option AV} {a b a' b' : List AV} (ha : a.mapM f = some a') (hb : b.mapM f = some b') : (a ++ b).mapM f = some (a' ++ b') := by
  rw [List.mapM_append, ha]; simp [hb]
theorem mapM_ex {f : List AV → Option (List AV)} {S S' : List AV → Prop} : ∀ {l : List (List AV)}, (∀ c ∈ l, S c → ∃ d, f c = some d ∧ S' d) → (∀ c ∈ l, S c) → ∃ r, l.mapM f = some r ∧ r.length = l.length ∧ ∀ d ∈ r, S' d := by
  intro l
  induction l with
  | nil => intro _ _; exact ⟨[], rfl, rfl, fun d h => by simp at h⟩
  | cons c l ih =>
    intro h hs
    obtain ⟨d, h1, h2⟩ := h c (by simp) (hs c (by simp))
    obtain ⟨r, h3, h4, h5⟩ := ih (fun c hc => h c (by simp [hc])) fun c hc => hs c (by simp [hc])
    refine ⟨d :: r, by simp [h1, h3], by simp [h4], fun x hx => ?_⟩
    rcases List.mem_cons.1 hx with rfl | hx
    · exact h2
    · exact h5 x hx

theorem parts_deep {n m : Nat} {H : Hp} (ih : ∀ (t : TypeId) (xs : List AV), Sh P B n t xs → ∃ ys, xs.mapM (deep H m) = some ys ∧ ShC P B n t ys) : ∀ (fs : List Field) (xs : List AV), Parts (Sh P B n) fs xs → ∃ ys, xs.mapM (deep H m) = some ys ∧ PartsT (ShC P B n) (fs.map (·.type)) ys := by
  intro fs
  induction fs with
  | nil => intro xs h; simp only [Parts] at h; subst h; exact ⟨[], rfl, rfl⟩
  | cons f fs ihf =>
    intro xs h
    obtain ⟨a, b, rfl, h1, h2⟩ := h
    obtain ⟨a', h3, h4⟩ := ih _ _ h1
    obtain ⟨b', h5, h6⟩ := ihf _ h2
    exact ⟨a' ++ b', mapM_append h3 h5, a', b', rfl, h4, h6⟩

theorem sh_deep (hB : ∀ b, B 0 b) {H : Hp} : ∀ (n m : Nat) (t : TypeId) (xs : List AV), n ≤ m → Sh P B n t xs → ∃ ys, xs.mapM (deep H m) = some ys ∧ ShC P B n t ys := by
  intro n
  induction n with
  | zero => intro m t xs _ h; simp [Sh] at h
  | succ n ih =>
    intro m t xs hm h
    obtain ⟨m, rfl⟩ : ∃ k, m = k + 1 := ⟨m - 1, by omega⟩
    unfold Sh at h
    cases hu : P.underlying t with
    | none => rw [hu] at h; exact h.elim
    | some D =>
      rw [hu] at h
      cases D <;> first | exact h.elim | skip
      case bool => obtain ⟨b, rfl⟩ := h; exact ⟨[.v (.bool b)], rfl, (shC_bool hu).2 ⟨b, rfl⟩⟩
      case int k =>
        obtain ⟨z, rfl, hz⟩ := h
        refine ⟨[.v (.int k z)], rfl, (shC_int hu).2 ⟨z, rfl, by simpa [Lit.wf] using hz⟩⟩
      case string => obtain ⟨s, rfl, hs⟩ := h; exact ⟨[.v (.string s)], rfl, (shC_string hu).2 ⟨s, rfl, hs⟩⟩
      case slice e =>
        rcases h with rfl | ⟨ys, rfl, hb, hc⟩
        · exact ⟨[.lst false []], rfl, (shC_slice hu).2 ⟨[], rfl, hB _, fun c h => by simp at h⟩⟩
        · obtain ⟨r, h1, h2, h3⟩ := mapM_ex (f := fun c : List AV => c.mapM (deep H m)) (S := Sh P B n e) (S' := ShC P B n e) (l := ys) (fun c _ hs => ih m e c (by omega) hs) hc
          refine ⟨[.lst false r], ?_, (shC_slice hu).2 ⟨r, rfl, by rw [h2]; exact hb, h3⟩⟩
          simp only [List.mapM_cons, List.mapM_nil, deep, h1]; rfl
      case struct fs =>
        have hf : fieldTs P t = some (fs.toList.map (·.type)) := by unfold fieldTs; rw [hu]
        obtain ⟨ys, h1, h2⟩ := parts_deep (fun t xs hs => ih (m + 1) t xs (by omega) hs) _ _ h
        exact ⟨ys, h1, (shC_struct hf).2 h2⟩

theorem args_deepC (hB : ∀ b, B 0 b) {n m : Nat} (hn : n ≤ m) {H : Hp} : ∀ (ts : List TypeId) (xs : List AV), ArgsSh P B n ts xs → ∃ ys, xs.mapM (deep H (m + 1)) = some ys ∧ ArgsC P B n ts ys := by
  intro ts
  induction ts with
  | nil => intro xs h; simp only [ArgsSh] at h; subst h; exact ⟨[], rfl, rfl⟩
  | cons t ts ih =>
    intro xs h
    obtain ⟨a, r, rfl, h1, h2⟩ := h
    obtain ⟨r', h3, h4⟩ := ih r h2
    have key : ∃ a', deep H (m + 1) a = some a' ∧ ArgC P B n t a' := by
      unfold ArgSh at h1
      split at h1
      · rename_i ha
        obtain ⟨xs, rfl, hs⟩ := h1
        obtain ⟨ys, h5, h6⟩ := sh_deep hB n m t xs hn hs (H := H)
        refine ⟨.agg ys, by simp only [deep, h5]; rfl, ?_⟩
        unfold ArgC; rw [ha]; exact ⟨ys, rfl, h6⟩
      · rename_i ha
        obtain ⟨ys, h5, h6⟩ := sh_deep hB n (m + 1) t [a] (by omega) h1 (H := H)
        simp only [List.mapM_cons, List.mapM_nil, Option.bind_eq_bind, Option.bind_eq_some_iff, Option.pure_def, Option.some.injEq] at h5
        obtain ⟨a', h5, _, rfl, rfl⟩ := h5
        refine ⟨a', h5, ?_⟩
        unfold ArgC
        split
        · rename_i ha'; exact absurd ha' ha
        · exact h6
    obtain ⟨a', h5, h6⟩ := key
    exact ⟨a' :: r', by simp [h5, h3], a', r', rfl, h6, h4⟩

theorem reach_0 (b : Nat) : reach 0 b := by simp [reach]
/-- A law whose arguments are in their one form. -/
theorem law_of {cfg : Cfg} {f n : Nat} {fn : Func} (hf : P.funcs[f]? = some fn) (hq : cfg.prim f = none) (ho : fnOk P cfg f fn = true) (hr : cfg.raw f = false) (hn : n ≤ 11) {ts : List TypeId}
    (h : ∀ xs, ArgsC P reach n ts xs → pure P cfg f fn xs = some (.v (.bool true), true)) (xs : List AV) (hx : ArgsSh P reach n ts xs) : ∃ H', call P cfg 0 f xs Hp.nil = some (.v (.bool true), H') := by
  obtain ⟨ys, h1, h2⟩ := args_deepC reach_0 hn ts xs hx (H := Hp.nil)
  exact ⟨_, call_of hf hq ho hr (by omega) h1 (h ys h2) (.inl rfl)⟩
end
end Go.Proofs.YtnejoidfbgklbaaGreatDoor.Eng
namespace Go.Proofs.YtnejoidfbgklbaaGreatDoor.Eng
open Go Go.RowKit
set_option linter.unusedSimpArgs false
set_option linter.unusedVariables false

section
variable {P : Program} {B : Nat → Nat → Prop}
end

/-! Whole numbers in lists. -/
def icell (z : Int) : AV := .v (.int .i64 z)
def i64L (l : List Int) : AV := .lst false (l.map fun z => [icell z])
theorem lenD_i64s (e : TypeId) (l : List Int) : lenD (some (.slice e)) (i64L l) = some (.v (.int .i64 l.length)) := by simp [lenD, i64L]
theorem asCells_icell (z : Int) : asCells (icell z) = some [icell z] := rfl
theorem okc_icell (z : Int) : okc (icell z) = true := rfl
theorem asCells_bytes (l : List Int) : asCells (bytesL l) = some [bytesL l] := rfl
theorem okc_bytes (l : List Int) : okc (bytesL l) = true := rfl
theorem asCells_i64s (l : List Int) : asCells (i64L l) = some [i64L l] := rfl
theorem okc_i64s (l : List Int) : okc (i64L l) = true := rfl
attribute [go_sem] lenD_i64s asCells_icell okc_icell asCells_bytes okc_bytes asCells_i64s okc_i64s
theorem i64L_fz (n : Nat) (l : List Int) : Fz (n + 2) (i64L l) := Fz.lst fun c hc x hx => by
  obtain ⟨z, -, rfl⟩ := List.mem_map.1 hc
  simp at hx; subst hx; exact Fz.int _ _ _
def Bytes (l : List Int) : Prop := ∀ z ∈ l, 0 ≤ z ∧ z ≤ 255
theorem choose_ints {P : Program} {B : Nat → Nat → Prop} {k : IntKind} {n : Nat} {t : TypeId} (hu : P.underlying t = some (.int k)) : ∀ (ys : List (List AV)), (∀ c ∈ ys, ShC P B n t c) → ∃ l : List Int, ys = l.map (fun z => [AV.v (.int k z)]) ∧ ∀ z ∈ l, k.min ≤ z ∧ z ≤ k.max := by
  intro ys
  induction ys with
  | nil => intro _; exact ⟨[], rfl, fun z h => by simp at h⟩
  | cons c ys ih =>
    intro h
    have hc := h c (by simp)
    cases n with
    | zero => simp [ShC] at hc
    | succ n =>
      obtain ⟨z, rfl, hz⟩ := (shC_int hu).1 hc
      obtain ⟨l, rfl, hl⟩ := ih fun c hc => h c (by simp [hc])
      refine ⟨z :: l, rfl, fun y hy => ?_⟩
      rcases List.mem_cons.1 hy with rfl | hy
      · exact hz
      · exact hl y hy
theorem shC_bytes {P : Program} {B : Nat → Nat → Prop} {n : Nat} {t e : TypeId} {xs : List AV} (hu : P.underlying t = some (.slice e)) (he : P.underlying e = some (.int .u8)) (hb : P.bytesOf e = 1) (h : ShC P B n t xs) : ∃ l, xs = [bytesL l] ∧ Bytes l ∧ B l.length 1 := by
  cases n with
  | zero => simp [ShC] at h
  | succ n =>
    obtain ⟨ys, rfl, h1, h2⟩ := (shC_slice hu).1 h
    obtain ⟨l, rfl, h3⟩ := choose_ints he ys h2
    exact ⟨l, rfl, h3, by simpa [hb] using h1⟩
theorem setAll_mid : ∀ (c a z b : List AV), c.length = z.length → setAll (a ++ (z ++ b)) a.length c = a ++ (c ++ b) := by
  intro c
  induction c with
  | nil => intro a z b h; have hz := List.length_eq_zero_iff.1 h.symm; subst hz; rfl
  | cons x c ih =>
    intro a z b h
    cases z with
    | nil => simp at h
    | cons y z =>
      simp only [setAll]
      have h1 : (a ++ (y :: z ++ b)).set a.length x = (a ++ [x]) ++ (z ++ b) := by
        rw [List.set_append_right _ _ (Nat.le_refl _)]; simp
      have h2 : a.length + 1 = (a ++ [x]).length := by simp
      rw [h1, h2, ih (a ++ [x]) z b (by simpa using h)]; simp
end Go.Proofs.YtnejoidfbgklbaaGreatDoor.Eng
