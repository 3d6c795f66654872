/- The engine, part 20: the rules of a reckoning, in bundles. -/
import Derived.Test.YtlkoklhnodcipaaDoorE19
namespace Go.Proofs.YtlkoklhnodcipaaDoor.Eng
open Go
set_option linter.unusedSimpArgs false
set_option linter.unusedVariables false

theorem nil_g : Hp.nil.g = 0 := rfl
theorem nil_h (b : Nat) : Hp.nil.h b = none := rfl
theorem new_same (H : Hp) (cs : List AV) : (H.new cs).h H.g = some cs := by simp [Hp.new]
theorem new_at (H : Hp) (cs : List AV) (b : Nat) (h : (b == H.g) = false) : (H.new cs).h b = H.h b := by simp [Hp.new, by simpa using h]
theorem new_at' (H : Hp) (cs : List AV) (b : Nat) (h : (b == H.g) = true) : (H.new cs).h b = some cs := by simp [Hp.new, by simpa using h]
theorem set_same (H : Hp) (cs : List AV) (b : Nat) : (H.set b cs).h b = some cs := by simp [Hp.set]
theorem set_at (H : Hp) (cs : List AV) (b b' : Nat) (h : (b' == b) = false) : (H.set b cs).h b' = H.h b' := by simp [Hp.set, by simpa using h]
theorem del_at (H : Hp) (b b' : Nat) (h : (b' == b) = false) : (H.del b).h b' = H.h b' := by simp [Hp.del, by simpa using h]
theorem aggC (cs : Array Value) : ofV (.agg cs) = .agg (cs.toList.map .v) := rfl
theorem exact2_v (x y : Value) : exact2 (.v x) (.v y) = some (x, y) := rfl
theorem envOf_0 (a : AV) (as : List AV) : envOf (a :: as) 0 = a := rfl
theorem envOf_1 (a b : AV) (as : List AV) : envOf (a :: b :: as) 1 = b := rfl
theorem envOf_2 (a b c : AV) (as : List AV) : envOf (a :: b :: c :: as) 2 = c := rfl
theorem envOf_3 (a b c d : AV) (as : List AV) : envOf (a :: b :: c :: d :: as) 3 = d := rfl
theorem envOf_4 (a b c d f : AV) (as : List AV) : envOf (a :: b :: c :: d :: f :: as) 4 = f := rfl
theorem envOf_5 (a b c d f g : AV) (as : List AV) : envOf (a :: b :: c :: d :: f :: g :: as) 5 = g := rfl
theorem envOf_6 (a b c d f g h : AV) (as : List AV) : envOf (a :: b :: c :: d :: f :: g :: h :: as) 6 = h := rfl
theorem ite_t {α : Type} {c : Prop} [Decidable c] (a b : α) (h : c) : (if c then a else b) = a := if_pos h

theorem bq_tt : (true == true) = true := rfl
theorem bq_ff : (false == false) = true := rfl
theorem bq_tf : (true == false) = false := rfl
theorem bq_ft : (false == true) = false := rfl
attribute [go_sem] bq_tt bq_ff bq_tf bq_ft
theorem lap_c {α : Type} (a : α) (xs bs : List α) : List.append (a :: xs) bs = a :: List.append xs bs := rfl
theorem lap_n {α : Type} (bs : List α) : List.append [] bs = bs := rfl
attribute [go_sem] lap_c lap_n op_mkI
attribute [go_sem] asteps_guardL guardL_tt guardL_ff guardL_tf guardL_ft guardL_un gOf gOf.gDst op_callv callV_fn List.getElem?_toArray List.append_nil op_buildSlice op_nilCheck op_pick op_makeFunc bs_0 bs_1i bs_2i chunk_0 chunk_one1 chunk_one2 chunk_one3 lit_i asteps_nil asteps_one thenE_some withH_some anyH_some op_move op_assign op_alloc op_box op_build op_load op_store op_unOp op_convert op_makeSlice op_slice
attribute [go_sem] astepsF_nil astepsF_one astepsF_guard guardF_tt guardF_ff guardF_tf guardF_ft guardF_un thenF_some kF_nil kF_one one_h hF_t hF_f bF_t bF_f frQ frK_load frK_conv frK_slice frK_index Bool.false_and Bool.true_and
attribute [go_sem] op_fieldAddr op_field op_indexAddr op_index op_extract op_binOp op_call op_builtin upd_eq put_some put_none opd_tmp opd_int
attribute [go_sem] opd_bool opd_string opd_slice opd_pointer opd_agg opd_func nil_g nil_h Hp.new_g Hp.set_g Hp.del_g Hp.new_h Hp.set_h Hp.del_h
theorem nilCmp_int (k : Nat) (k1 k2 : IntKind) (a b : Int) : nilCmp k (.v (.int k1 a)) (.v (.int k2 b)) = none := by unfold nilCmp; split <;> simp_all
theorem nilCmp_str (k : Nat) (a b : ByteArray) : nilCmp k (.v (.string a)) (.v (.string b)) = none := by unfold nilCmp; split <;> simp_all
theorem nilCmp_bool (k : Nat) (a b : Bool) : nilCmp k (.v (.bool a)) (.v (.bool b)) = none := by unfold nilCmp; split <;> simp_all
section
variable {P : Program}
theorem abinX_ii (op : BinOp) (t : TypeId) (k1 k2 : IntKind) (a b : Int) : abinX P op t (.v (.int k1 a)) (.v (.int k2 b)) = (abinV op (.int k1 a) (.int k2 b)).map .v := by
  unfold abinX; rw [nilCmp_int]; rfl
theorem abinX_ss (op : BinOp) (t : TypeId) (a b : ByteArray) : abinX P op t (.v (.string a)) (.v (.string b)) = (abinV op (.string a) (.string b)).map .v := by
  unfold abinX; rw [nilCmp_str]; rfl
theorem abinX_bb (op : BinOp) (t : TypeId) (a b : Bool) : abinX P op t (.v (.bool a)) (.v (.bool b)) = abin P op t (.v (.bool a)) (.v (.bool b)) := by
  unfold abinX; rw [nilCmp_bool]
def abinY (P : Program) (op : BinOp) (t : TypeId) (x y : AV) : Option AV := match nilCmp (nilT P t) x y with
  | some b => (eqOp op).map fun q => .v (.bool (if q then b else !b))
  | none => none
theorem abinX_sl (op : BinOp) (t : TypeId) (x : AV) (n c : Nat) : abinX P op t x (.v (.slice none n c)) = match nilCmp (nilT P t) x (.v (.slice none n c)) with
  | some b => (eqOp op).map fun q => .v (.bool (if q then b else !b))
  | none => abin P op t x (.v (.slice none n c)) := rfl
theorem abinX_pt (op : BinOp) (t : TypeId) (x : AV) : abinX P op t x (.v (.pointer none)) = match nilCmp (nilT P t) x (.v (.pointer none)) with
  | some b => (eqOp op).map fun q => .v (.bool (if q then b else !b))
  | none => abin P op t x (.v (.pointer none)) := rfl
end
attribute [go_sem] abinX_ii abinX_ss abinX_bb abinX_sl abinX_pt abinQ_tmp abinQ_int abinQ_bool abinQ_string abinQ_slice abinQ_pointer abinQ_agg abinQ_nil
theorem okc_int (k : IntKind) (z : Int) : okc (.v (.int k z)) = true := rfl
theorem okc_bool (b : Bool) : okc (.v (.bool b)) = true := rfl
theorem okc_string (b : ByteArray) : okc (.v (.string b)) = true := rfl
theorem okc_slice (a : Option Addr) (n c : Nat) : okc (.v (.slice a n c)) = true := rfl
theorem okc_pointer (a : Option Addr) : okc (.v (.pointer a)) = true := rfl
theorem okc_lst (fu : Bool) (xs : List (List AV)) : okc (.lst fu xs) = true := rfl
theorem okc_fp (cs : List AV) (o : Nat) : okc (.fp cs o) = true := rfl
theorem okc_sl (b sz o n : Nat) : okc (.sl b sz o n) = true := rfl
theorem okc_ptr (b o : Nat) : okc (.ptr b o) = true := rfl
theorem okc_fn (f : Nat) (cs : List AV) : okc (.fn f cs) = true := rfl
theorem asC_agg (cs : List AV) : asCells (.agg cs) = some cs := rfl
theorem asC_int (k : IntKind) (z : Int) : asCells (.v (.int k z)) = some [.v (.int k z)] := rfl
theorem asC_bool (b : Bool) : asCells (.v (.bool b)) = some [.v (.bool b)] := rfl
theorem asC_string (b : ByteArray) : asCells (.v (.string b)) = some [.v (.string b)] := rfl
theorem asC_slice (a : Option Addr) (n c : Nat) : asCells (.v (.slice a n c)) = some [.v (.slice a n c)] := rfl
theorem asC_pointer (a : Option Addr) : asCells (.v (.pointer a)) = some [.v (.pointer a)] := rfl
theorem asC_lst (fu : Bool) (xs : List (List AV)) : asCells (.lst fu xs) = some [.lst fu xs] := rfl
theorem asC_fp (cs : List AV) (o : Nat) : asCells (.fp cs o) = some [.fp cs o] := rfl
theorem asC_sl (b sz o n : Nat) : asCells (.sl b sz o n) = some [.sl b sz o n] := rfl
theorem asC_ptr (b o : Nat) : asCells (.ptr b o) = some [.ptr b o] := rfl
theorem asC_fn (f : Nat) (cs : List AV) : asCells (.fn f cs) = some [.fn f cs] := rfl
attribute [go_sem] okc_int okc_bool okc_string okc_slice okc_pointer okc_lst okc_fp okc_sl okc_ptr okc_fn asC_agg asC_int asC_bool asC_string asC_slice asC_pointer asC_lst asC_fp asC_sl asC_ptr asC_fn
attribute [go_sem] envOf_0 envOf_1 envOf_2 envOf_3 envOf_4 envOf_5 envOf_6 aload astore ldc setAll afill aparts abuild abin abinV nilCmp eqOp exact2 aunary
attribute [go_sem] afieldAddr afield apart aextract aindex alen builtinOp b_len lenD_nil lenD_str lenD_lst lenD_sl lenD_arr b_max b_min amakeSlice Value.oneCell' Option.bind_some Option.map_some
attribute [go_sem] Option.getD_some List.map_cons List.map_nil List.all_cons List.all_nil List.length_cons List.length_nil List.getElem?_cons_zero List.getElem?_cons_succ
attribute [go_sem] List.drop_succ_cons List.drop_zero List.take_succ_cons List.take_zero List.set_cons_zero List.set_cons_succ Bool.and_self Bool.and_true
attribute [go_sem] Bool.true_and and_self and_true true_and if_true if_false ne_eq not_false_eq_true Nat.le_refl
attribute [go_sem] Bool.false_eq_true Bool.not_true Bool.not_false decide_eq_true_eq
section
variable {P : Program}
theorem aix_lst (H : Hp) (t : TypeId) (fu : Bool) (xs : List (List AV)) (i : AV) : aindexAddr P H t (.lst fu xs) i = (natOf i).bind fun i => match P.underlying t with
    | some (.slice el) => (xs[i]?).bind fun c => if szOf P el = some c.length then some (.fp c 0) else none
    | _ => none := by
  unfold aindexAddr
  cases natOf i with
  | none => rfl
  | some i =>
    cases P.underlying t with
    | none => rfl
    | some d => cases d <;> rfl
theorem aix_sl (H : Hp) (t : TypeId) (b sz o n : Nat) (i : AV) : aindexAddr P H t (.sl b sz o n) i = (natOf i).bind fun i => match P.underlying t with
    | some (.slice el) => if szOf P el = some sz ∧ i < n ∧ (H.h b).isSome then some (.ptr b (o + i * sz)) else none
    | _ => none := by
  unfold aindexAddr
  cases natOf i with
  | none => rfl
  | some i =>
    cases P.underlying t with
    | none => rfl
    | some d => cases d <;> rfl
theorem aix_ptr (H : Hp) (t : TypeId) (b o : Nat) (i : AV) : aindexAddr P H t (.ptr b o) i = (natOf i).bind fun i => match P.underlying t with
    | some (.array m el) => (szOf P el).bind fun sz => if i < m then some (.ptr b (o + i * sz)) else none
    | _ => none := by
  unfold aindexAddr
  cases natOf i with
  | none => rfl
  | some i =>
    cases P.underlying t with
    | none => rfl
    | some d => cases d <;> rfl
theorem aix_fp (H : Hp) (t : TypeId) (cs : List AV) (o : Nat) (i : AV) : aindexAddr P H t (.fp cs o) i = (natOf i).bind fun i => match P.underlying t with
    | some (.array m el) => (szOf P el).bind fun sz => if i < m then some (.fp cs (o + i * sz)) else none
    | _ => none := by
  unfold aindexAddr
  cases natOf i with
  | none => rfl
  | some i =>
    cases P.underlying t with
    | none => rfl
    | some d => cases d <;> rfl
end
attribute [go_sem] aix_lst aix_sl aix_ptr aix_fp
end Go.Proofs.YtlkoklhnodcipaaDoor.Eng
