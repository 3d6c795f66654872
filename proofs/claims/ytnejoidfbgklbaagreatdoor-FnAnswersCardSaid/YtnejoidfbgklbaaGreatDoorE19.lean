/- The engine, part 19: rules for going through a function's code. -/
import Derived.Test.YtnejoidfbgklbaaGreatDoorE18
namespace Go.Proofs.YtnejoidfbgklbaaGreatDoor.Eng
open Go
set_option linter.unusedSimpArgs false
set_option linter.unusedVariables false

section
variable {P : Program} {cfg : Cfg} {fid : Nat}

/-- The code ends from here, and so. -/
structure Wp (P : Program) (cfg : Cfg) (fid : Nat) (c : Code) (s : St) (Q : AX → St → Prop) : Prop where
  ex : ∃ x s', code P cfg fid c s = some (x, s') ∧ Q x s'

def thenQ (K : St → Prop) (Q : AX → St → Prop) : AX → St → Prop
  | .normal, s => K s
  | .exit id, s => Q (.exit id) s
  | .ret, s => Q .ret s
def blockQ (id : Nat) (Q : AX → St → Prop) : AX → St → Prop
  | .normal, s => Q .normal s
  | .exit id', s => if id' = id then Q .normal s else Q (.exit id') s
  | .ret, s => Q .ret s

variable {s : St} {Q : AX → St → Prop}
theorem wMono {c : Code} {Q' : AX → St → Prop} (h : Wp P cfg fid c s Q) (hq : ∀ x s, Q x s → Q' x s) : Wp P cfg fid c s Q' := by
  obtain ⟨x, s', h1, h2⟩ := h; exact ⟨x, s', h1, hq _ _ h2⟩
theorem wSkip (h : Q .normal s) : Wp P cfg fid .skip s Q := ⟨_, _, code_skip _ _ _ _, h⟩
theorem wExit {id : Nat} (h : Q (.exit id) s) : Wp P cfg fid (.exit id) s Q := ⟨_, _, code_exit _ _ _ _ _, h⟩
theorem wRet (h : Q .ret s) : Wp P cfg fid .ret s Q := ⟨_, _, code_ret _ _ _ _, h⟩
theorem wSeq {a b : Code} (h : Wp P cfg fid a s (thenQ (fun s => Wp P cfg fid b s Q) Q)) : Wp P cfg fid (.seq a b) s Q := by
  obtain ⟨x, s', h1, h2⟩ := h
  cases x with
  | normal =>
    obtain ⟨x2, s2, h3, h4⟩ := h2
    exact ⟨x2, s2, by rw [code_seq, h1]; exact h3, h4⟩
  | exit id => exact ⟨_, _, by rw [code_seq, h1]; rfl, h2⟩
  | ret => exact ⟨_, _, by rw [code_seq, h1]; rfl, h2⟩
theorem wReg {id : Nat} {ops : Array Oper} {d : Bool} (h : ∀ x, asteps P (cfg.pol fid) (call P cfg) ops ops.toList s.1 s.2 = x → ∃ s', x = some s' ∧ Q .normal s') (hl : latF (cfg.pol fid) = false := by rfl) : Wp P cfg fid (.region id ops d) s Q := by
  obtain ⟨s', h1, h2⟩ := h _ rfl
  exact ⟨_, _, by rw [code_region P cfg _ _ _ _ _ hl, h1]; rfl, h2⟩
theorem wSeqr {id : Nat} {ops : Array Oper} {d : Bool} {b : Code} (h : ∀ x, asteps P (cfg.pol fid) (call P cfg) ops ops.toList s.1 s.2 = x → ∃ s', x = some s' ∧ Wp P cfg fid b s' Q) (hl : latF (cfg.pol fid) = false := by rfl) : Wp P cfg fid (.seq (.region id ops d) b) s Q :=
  wSeq (wReg h hl)
/-- A region with late reads. -/
theorem wRegL {id : Nat} {ops : Array Oper} {d : Bool} (h : ∀ x, asteps P (cfg.pol fid) (call P cfg) ops ops.toList s.1 s.2 = x → ∃ s', x = some s' ∧ LateOk P (cfg.pol fid) (call P cfg) ops s ∧ Q .normal s') : Wp P cfg fid (.region id ops d) s Q := by
  obtain ⟨s', h1, h2, h3⟩ := h _ rfl
  exact ⟨_, _, code_regionL P cfg _ _ _ _ _ h1 h2, h3⟩
theorem wCond {c : Operand} {a b : Code} (t : Bool) (h : opd s.1 c = .v (.bool t)) (ht : t = true → Wp P cfg fid a s Q) (hf : t = false → Wp P cfg fid b s Q) : Wp P cfg fid (.cond c a b) s Q := by
  cases t with
  | true => obtain ⟨x, s', h1, h2⟩ := ht rfl; exact ⟨x, s', by rw [code_cond_true _ _ _ _ _ _ _ h]; exact h1, h2⟩
  | false => obtain ⟨x, s', h1, h2⟩ := hf rfl; exact ⟨x, s', by rw [code_cond_false _ _ _ _ _ _ _ h]; exact h1, h2⟩
theorem wIf {c : Operand} {a b : Code} (h : ∀ y, opd s.1 c = y → ∃ t, y = .v (.bool t) ∧ (t = true → Wp P cfg fid a s Q) ∧ (t = false → Wp P cfg fid b s Q)) : Wp P cfg fid (.cond c a b) s Q := by
  obtain ⟨t, h1, h2, h3⟩ := h _ rfl
  exact wCond t h1 h2 h3
theorem wBlock {id : Nat} {c : Code} (h : Wp P cfg fid c s (blockQ id Q)) : Wp P cfg fid (.block id c) s Q := by
  obtain ⟨x, s', h1, h2⟩ := h
  refine ⟨_, _, by rw [code_block, h1]; rfl, ?_⟩
  cases x with
  | normal => exact h2
  | ret => exact h2
  | exit id' =>
    simp only [blockQ] at h2
    simp only [outOf]
    split at h2 <;> simp_all
/-- A loop: I k holds k rounds, at most, ahead of its end. -/
theorem wLoop {c : Code} (I : Nat → St → Prop) (h : ∀ k s, I k s → Wp P cfg fid c s (thenQ (fun s' => ∃ j, j < k ∧ I j s') Q)) : ∀ k s, I k s → Wp P cfg fid (.loop c) s Q := by
  intro k
  induction k using Nat.strongRecOn with
  | ind k ih =>
    intro s hI
    obtain ⟨x, s', h1, h2⟩ := h k s hI
    cases x with
    | normal =>
      obtain ⟨j, hj, hI'⟩ := h2
      obtain ⟨x2, s2, h3, h4⟩ := ih j hj s' hI'
      exact ⟨x2, s2, by rw [code_loop, h1]; exact h3, h4⟩
    | exit id => exact ⟨_, _, by rw [code_loop, h1]; rfl, h2⟩
    | ret => exact ⟨_, _, by rw [code_loop, h1]; rfl, h2⟩

/-- How a function's code must end. -/
def Ends (P : Program) (rs : List ResultVar) (R : AV → Hp → Prop) : AX → St → Prop
  | .exit _, _ => False
  | _, s => ∃ vs, aresults P s.2 s.1 rs = some vs ∧ R (tupOf vs) s.2
def Gives (v : AV) (cl : Bool) (x : AV) (H : Hp) : Prop := deep H depthD x = some v ∧ clean H depthD x = cl
theorem ends_by {rs : List ResultVar} {R : AV → Hp → Prop} (h : ∀ x, aresults P s.2 s.1 rs = x → ∃ vs, x = some vs ∧ R (tupOf vs) s.2) : Ends P rs R .ret s := by
  obtain ⟨vs, h1, h2⟩ := h _ rfl
  exact ⟨vs, h1, h2⟩
theorem body_wp {fn : Func} {c : Code} {rs : List ResultVar} (hb : fn.body = some c) (hrs : fn.results.toList = rs) {as : List AV} {H : Hp} {R : AV → Hp → Prop} (h : Wp P cfg fid c (envOf as, H) (Ends P rs R)) : ∃ r, body P cfg fid fn as H = some r ∧ R r.1 r.2 := by
  obtain ⟨x, s', h1, h2⟩ := h
  have hc : codeOf fn = c := by simp [codeOf, hb]
  cases x with
  | exit id => exact h2.elim
  | normal => obtain ⟨vs, h3, h4⟩ := h2; exact ⟨(tupOf vs, s'.2), by unfold body; rw [hc, h1]; simp only [Option.bind_some, finish, hrs, h3, Option.map_some], h4⟩
  | ret => obtain ⟨vs, h3, h4⟩ := h2; exact ⟨(tupOf vs, s'.2), by unfold body; rw [hc, h1]; simp only [Option.bind_some, finish, hrs, h3, Option.map_some], h4⟩
theorem pure_wp {fn : Func} {c : Code} {rs : List ResultVar} (hb : fn.body = some c) (hrs : fn.results.toList = rs) {as : List AV} {v : AV} {cl : Bool} (h : Wp P cfg fid c (envOf as, Hp.nil) (Ends P rs (Gives v cl))) : pure P cfg fid fn as = some (v, cl) := by
  obtain ⟨r, h1, h2, h3⟩ := body_wp hb hrs h
  unfold pure; rw [h1]
  simp only [Option.bind_some, h2, h3, Option.map_some]

theorem pure_ex {fn : Func} {c : Code} {rs : List ResultVar} (hb : fn.body = some c) (hrs : fn.results.toList = rs) {as : List AV} {Q : AV → Bool → Prop} (h : Wp P cfg fid c (envOf as, Hp.nil) (Ends P rs (fun x H => ∃ v cl, Q v cl ∧ Gives v cl x H))) : ∃ v cl, Q v cl ∧ pure P cfg fid fn as = some (v, cl) := by
  obtain ⟨r, h1, v, cl, hq, h2, h3⟩ := body_wp hb hrs h
  refine ⟨v, cl, hq, ?_⟩
  unfold pure; rw [h1]
  simp only [Option.bind_some, h2, h3, Option.map_some]

/-- A call of a function whose law on values that are only read is known. -/
theorem call_of {f : Nat} {fn : Func} (hf : P.funcs[f]? = some fn) (hq : cfg.prim f = none) (ho : fnOk P cfg f fn = true) (hr : cfg.raw f = false) {p : Nat} (hp : p ≠ 1) {as ts : List AV} {H : Hp} {v : AV} {cl : Bool}
    (hd : as.mapM (deep H depthD) = some ts) (hc : pure P cfg f fn ts = some (v, cl)) (hcl : cl = true ∨ as.any (hasRefs depthD) = false) : call P cfg p f as H = some (v, H) := by
  rw [call_pure P cfg hf hq ho hr hp, hd]
  simp only [Option.bind_some, hc, pureAt]
  rw [if_pos]
  rcases hcl with h | h <;> simp [h]

theorem upd_eq (e : Env) (t t' : Nat) (x : AV) : upd e t x t' = if t' = t then x else e t' := rfl
theorem put_some (e : Env) (t : Nat) (x : AV) : put e (some t) x = upd e t x := rfl
theorem put_none (e : Env) (x : AV) : put e none x = e := rfl
theorem opd_tmp (e : Env) (t : Nat) : opd e (.tmp t) = e t := rfl
theorem opd_int (e : Env) (k : IntKind) (n : Int) : opd e (.const (.int k n)) = .v (.int k n) := rfl
theorem opd_bool (e : Env) (b : Bool) : opd e (.const (.bool b)) = .v (.bool b) := rfl
theorem opd_string (e : Env) (b : ByteArray) : opd e (.const (.string b)) = .v (.string b) := rfl
theorem opd_slice (e : Env) (n c : Nat) : opd e (.const (.slice none n c)) = .v (.slice none n c) := rfl
theorem opd_pointer (e : Env) : opd e (.const (.pointer none)) = .v (.pointer none) := rfl
theorem opd_agg (e : Env) (cs : Array Value) : opd e (.const (.agg cs)) = .agg (cs.toList.map .v) := rfl
theorem opd_func (e : Env) (f : Nat) : opd e (.func f) = .fn f [] := rfl

/-! One operation. -/
/-- One operation's value into its slot, and on. -/
def thenE (P : Program) (pol : Nat → Nat) (cf : CallF) (ops : Array Oper) (r : List Oper) (e : Env) (d : Option Nat) : Option (AV × Hp) → Option (Env × Hp)
  | some (v, H) => asteps P pol cf ops r (put e d v) H
  | none => none
def withH (H : Hp) : Option AV → Option (AV × Hp)
  | some v => some (v, H)
  | none => none
def anyH : Option Hp → Option (AV × Hp)
  | some H => some (.any, H)
  | none => none
theorem withH_some (H : Hp) (v : AV) : withH H (some v) = some (v, H) := rfl
theorem anyH_some (H : Hp) : anyH (some H) = some (.any, H) := rfl
theorem withH_eq (H : Hp) (x : Option AV) : x.map (·, H) = withH H x := by cases x <;> rfl
theorem anyH_eq (x : Option Hp) : x.map (AV.any, ·) = anyH x := by cases x <;> rfl
theorem thenE_some {pol : Nat → Nat} {cf : CallF} (ops : Array Oper) (r : List Oper) (e : Env) (d : Option Nat) (v : AV) (H : Hp) : thenE P pol cf ops r e d (some (v, H)) = asteps P pol cf ops r (put e d v) H := rfl
theorem asteps_one {pol : Nat → Nat} {cf : CallF} (ops : Array Oper) (d : Option Nat) (op : Op) (ty : TypeId) (pos : String) (aft : Array Edge) (r : List Oper) (e : Env) (H : Hp) :
    asteps P pol cf ops (⟨d, op, ty, pos, aft, none⟩ :: r) e H = thenE P pol cf ops r e d (aop P pol cf ⟨d, op, 0, "", #[], none⟩ e H) := by
  show ((aop P pol cf ⟨d, op, 0, "", #[], none⟩ e H).map fun x => (put e d x.1, x.2)).bind _ = _
  cases aop P pol cf ⟨d, op, 0, "", #[], none⟩ e H <;> rfl
theorem asteps_nil {pol : Nat → Nat} {cf : CallF} (ops : Array Oper) (e : Env) (H : Hp) : asteps P pol cf ops [] e H = some (e, H) := rfl
theorem op_move {pol : Nat → Nat} {cf : CallF} (d : Option Nat) (x : Operand) (e : Env) (H : Hp) : aop P pol cf ⟨d, .move x, 0, "", #[], none⟩ e H = some (opd e x, H) := rfl
theorem op_assign {pol : Nat → Nat} {cf : CallF} (d : Option Nat) (x : Operand) (e : Env) (H : Hp) : aop P pol cf ⟨d, .assign x, 0, "", #[], none⟩ e H = some (opd e x, H) := rfl
theorem op_alloc {pol : Nat → Nat} {cf : CallF} (d : Option Nat) (t : TypeId) (e : Env) (H : Hp) : aop P pol cf ⟨d, .alloc t, 0, "", #[], none⟩ e H = (zeroOf P t).map fun z => (.ptr H.g 0, H.new z) := rfl
theorem op_box {pol : Nat → Nat} {cf : CallF} (d : Option Nat) (t : TypeId) (x : Operand) (e : Env) (H : Hp) : aop P pol cf ⟨d, .box t x, 0, "", #[], none⟩ e H = (asCells (opd e x)).bind fun cs => if cs.all okc then some (.ptr H.g 0, H.new cs) else none := rfl
theorem op_build {pol : Nat → Nat} {cf : CallF} (d : Option Nat) (t : TypeId) (ps : Array (Nat × Operand)) (e : Env) (H : Hp) : aop P pol cf ⟨d, .build t ps, 0, "", #[], none⟩ e H = withH H (abuild P t (aparts e ps)) := by rw [← withH_eq]; rfl
theorem op_load {pol : Nat → Nat} {cf : CallF} (d : Option Nat) (t : TypeId) (a : Operand) (e : Env) (H : Hp) : aop P pol cf ⟨d, .load t a, 0, "", #[], none⟩ e H = withH H (aload P H t (opd e a)) := by rw [← withH_eq]; rfl
theorem op_store {pol : Nat → Nat} {cf : CallF} (d : Option Nat) (t : TypeId) (a x : Operand) (e : Env) (H : Hp) : aop P pol cf ⟨d, .store t a x, 0, "", #[], none⟩ e H = anyH (astore P H t (opd e a) (opd e x)) := by rw [← anyH_eq]; rfl
theorem op_unOp {pol : Nat → Nat} {cf : CallF} (d : Option Nat) (op : UnOp) (t : TypeId) (x : Operand) (e : Env) (H : Hp) : aop P pol cf ⟨d, .unOp op t x, 0, "", #[], none⟩ e H = withH H (aunary op (opd e x)) := by rw [← withH_eq]; rfl
theorem op_mkI {pol : Nat → Nat} {cf : CallF} (d : Option Nat) (t : TypeId) (x : Operand) (e : Env) (H : Hp) : aop P pol cf ⟨d, .makeInterface t x, 0, "", #[], none⟩ e H = withH H (amkI P t (opd e x)) := by rw [← withH_eq]; rfl
theorem op_convert {pol : Nat → Nat} {cf : CallF} (d : Option Nat) (s t : TypeId) (x : Operand) (e : Env) (H : Hp) : aop P pol cf ⟨d, .convert s t x, 0, "", #[], none⟩ e H = withH H (aconv P H s t (opd e x)) := by rw [← withH_eq]; rfl
theorem op_makeSlice {pol : Nat → Nat} {cf : CallF} (d : Option Nat) (t : TypeId) (l c : Operand) (e : Env) (H : Hp) : aop P pol cf ⟨d, .makeSlice t l c, 0, "", #[], none⟩ e H = amakeSlice P H t (opd e l) (opd e c) := rfl
theorem op_slice {pol : Nat → Nat} {cf : CallF} (d : Option Nat) (t : TypeId) (x : Operand) (lo hi mx : Option Operand) (e : Env) (H : Hp) : aop P pol cf ⟨d, .slice t x lo hi mx, 0, "", #[], none⟩ e H = withH H (aslice P H e t (opd e x) lo hi mx) := by rw [← withH_eq]; rfl
theorem op_fieldAddr {pol : Nat → Nat} {cf : CallF} (d : Option Nat) (t : TypeId) (x : Operand) (f : Nat) (e : Env) (H : Hp) : aop P pol cf ⟨d, .fieldAddr t x f, 0, "", #[], none⟩ e H = withH H (afieldAddr P t (opd e x) f) := by rw [← withH_eq]; rfl
theorem op_field {pol : Nat → Nat} {cf : CallF} (d : Option Nat) (t : TypeId) (x : Operand) (f : Nat) (e : Env) (H : Hp) : aop P pol cf ⟨d, .field t x f, 0, "", #[], none⟩ e H = withH H (afield P t (opd e x) f) := by rw [← withH_eq]; rfl
theorem op_indexAddr {pol : Nat → Nat} {cf : CallF} (d : Option Nat) (t : TypeId) (x i : Operand) (e : Env) (H : Hp) : aop P pol cf ⟨d, .indexAddr t x i, 0, "", #[], none⟩ e H = withH H (aindexAddr P H t (opd e x) (opd e i)) := by rw [← withH_eq]; rfl
theorem op_index {pol : Nat → Nat} {cf : CallF} (d : Option Nat) (t : TypeId) (x i : Operand) (e : Env) (H : Hp) : aop P pol cf ⟨d, .index t x i, 0, "", #[], none⟩ e H = withH H (aindex P t (opd e x) (opd e i)) := by rw [← withH_eq]; rfl
theorem op_extract {pol : Nat → Nat} {cf : CallF} (d : Option Nat) (x : Operand) (i : Nat) (e : Env) (H : Hp) : aop P pol cf ⟨d, .extract x i, 0, "", #[], none⟩ e H = withH H (aextract (opd e x) i) := by rw [← withH_eq]; rfl
def abinX (P : Program) (op : BinOp) (t : TypeId) (x y : AV) : Option AV := match nilCmp (nilT P t) x y with
  | some b => (eqOp op).map fun q => .v (.bool (if q then b else !b))
  | none => abin P op t x y
/-- A comparison, by its right operand: with the literal nil of an interface, or another. -/
def abinQ (P : Program) (op : BinOp) (t : TypeId) (x : AV) (y : Operand) (yv : AV) : Option AV := if isNilC y = true then nilQ P op t x else abinX P op t x yv
theorem op_binOp {pol : Nat → Nat} {cf : CallF} (d : Option Nat) (op : BinOp) (t t' : TypeId) (x y : Operand) (e : Env) (H : Hp) : aop P pol cf ⟨d, .binOp op t x y t', 0, "", #[], none⟩ e H = withH H (abinQ P op t (opd e x) y (opd e y)) := by
  rw [← withH_eq]
  unfold abinQ abinX
  show (if isNilC y = true then (nilQ P op t (opd e x)).map (·, H) else match nilCmp (nilT P t) (opd e x) (opd e y) with | some b => (eqOp op).map fun (q : Bool) => (AV.v (.bool (if q then b else !b)), H) | none => (abin P op t (opd e x) (opd e y)).map (·, H)) = _
  split
  · rfl
  cases nilCmp (nilT P t) (opd e x) (opd e y) with
  | none => rfl
  | some b => cases eqOp op <;> rfl
theorem abinQ_tmp (op : BinOp) (t : TypeId) (x : AV) (k : Nat) (yv : AV) : abinQ P op t x (.tmp k) yv = abinX P op t x yv := rfl
theorem abinQ_int (op : BinOp) (t : TypeId) (x : AV) (k : IntKind) (n : Int) (yv : AV) : abinQ P op t x (.const (.int k n)) yv = abinX P op t x yv := rfl
theorem abinQ_bool (op : BinOp) (t : TypeId) (x : AV) (b : Bool) (yv : AV) : abinQ P op t x (.const (.bool b)) yv = abinX P op t x yv := rfl
theorem abinQ_string (op : BinOp) (t : TypeId) (x : AV) (b : ByteArray) (yv : AV) : abinQ P op t x (.const (.string b)) yv = abinX P op t x yv := rfl
theorem abinQ_slice (op : BinOp) (t : TypeId) (x : AV) (a : Option Addr) (n c : Nat) (yv : AV) : abinQ P op t x (.const (.slice a n c)) yv = abinX P op t x yv := rfl
theorem abinQ_pointer (op : BinOp) (t : TypeId) (x : AV) (a : Option Addr) (yv : AV) : abinQ P op t x (.const (.pointer a)) yv = abinX P op t x yv := rfl
theorem abinQ_agg (op : BinOp) (t : TypeId) (x : AV) (cs : Array Value) (yv : AV) : abinQ P op t x (.const (.agg cs)) yv = abinX P op t x yv := rfl
theorem abinQ_nil (op : BinOp) (t : TypeId) (x : AV) (yv : AV) : abinQ P op t x (.const .nilIface) yv = nilQ P op t x := rfl
def litO (H : Hp) (p n : Nat) : Option (List AV × Nat) → Option (AV × Hp)
  | some (cs, sz) => if sz = 0 ∨ !(cs.all okc) then none else if p = 1 then some (.sl H.g sz 0 n, H.new cs) else some (.lst true (chunk sz n cs), H)
  | none => none
def bs (len : Nat) (z : List AV) (ps : List (Nat × AV)) : Option (List AV × Nat) :=
  if len * z.length ≤ 16777216 ∧ ps.all (fun p => (asCells p.2).isSome) = true then (afill (fun i => some (i * z.length, z.length)) (zeros len z) ps).map fun cs => (cs, z.length) else none
theorem op_buildSlice {pol : Nat → Nat} {cf : CallF} (d : Option Nat) (t : TypeId) (n : Nat) (ps : Array (Nat × Operand)) (e : Env) (H : Hp) : aop P pol cf ⟨d, .buildSlice t n ps, 0, "", #[], none⟩ e H = litO H (pol (d.getD 0)) n ((elemOf? P t).bind fun el => (zeroOf P el).bind fun z => bs n z (aparts e ps)) := by
  show (abuildSlice P t n (aparts e ps)).bind _ = litO H (pol (d.getD 0)) n (abuildSlice P t n (aparts e ps))
  cases abuildSlice P t n (aparts e ps) <;> rfl
theorem op_nilCheck {pol : Nat → Nat} {cf : CallF} (d : Option Nat) (x : Operand) (e : Env) (H : Hp) : aop P pol cf ⟨d, .nilCheck x, 0, "", #[], none⟩ e H = (match opd e x with | .ptr b q => some (.ptr b q, H) | .fp c q => some (.fp c q, H) | _ => none) := rfl
theorem op_pick {pol : Nat → Nat} {cf : CallF} (d : Option Nat) (c a b : Operand) (e : Env) (H : Hp) : aop P pol cf ⟨d, .pick c a b, 0, "", #[], none⟩ e H = (match opd e c with | .v (.bool t) => some (if t then opd e a else opd e b, H) | _ => none) := rfl
theorem op_makeFunc {pol : Nat → Nat} {cf : CallF} (d : Option Nat) (f : FuncId) (first cap : Array Operand) (e : Env) (H : Hp) : aop P pol cf ⟨d, .makeFunc (.func f) first cap, 0, "", #[], none⟩ e H = if first.size = 0 then some (.fn f (cap.toList.map (opd e)), H) else none := rfl
theorem bs_0 (z : List AV) : bs 0 z [] = some ([], z.length) := by simp [bs, afill, zeros]
theorem bs_1 (d x : AV) (h : okc x = true) : bs 1 [d] [(0, x)] = some ([x], 1) := by
  have hx : asCells x = some [x] := by cases x <;> simp_all [asCells, okc]
  simp [bs, afill, zeros, hx, setAll]
theorem bs_2 (d x y : AV) (h : okc x = true) (h' : okc y = true) : bs 2 [d] [(0, x), (1, y)] = some ([x, y], 1) := by
  have hx : asCells x = some [x] := by cases x <;> simp_all [asCells, okc]
  have hy : asCells y = some [y] := by cases y <;> simp_all [asCells, okc]
  simp [bs, afill, zeros, hx, hy, setAll, List.replicate]
theorem chunk_0 (sz : Nat) (cs : List AV) : chunk sz 0 cs = [] := rfl
def bs' := bs
def litO' := litO
theorem bs_1i (d x : AV) : bs 1 [d] [(0, x)] = if okc x = true then some ([x], 1) else bs' 1 [d] [(0, x)] := by
  split
  · exact bs_1 d x (by assumption)
  · rfl
theorem bs_2i (d x y : AV) : bs 2 [d] [(0, x), (1, y)] = if okc x = true ∧ okc y = true then some ([x, y], 1) else bs' 2 [d] [(0, x), (1, y)] := by
  split
  · rename_i h; exact bs_2 d x y h.1 h.2
  · rfl
theorem lit_i (H : Hp) (n : Nat) (cs : List AV) : litO H 0 n (some (cs, 1)) = if cs.all okc = true then some (.lst true (chunk 1 n cs), H) else litO' H 0 n (some (cs, 1)) := by
  split
  · rename_i h; simp [litO, h]
  · rfl
theorem chunk_one1 (x : AV) : chunk 1 1 [x] = [[x]] := rfl
theorem chunk_one2 (x y : AV) : chunk 1 2 [x, y] = [[x], [y]] := rfl
theorem chunk_one3 (x y z : AV) : chunk 1 3 [x, y, z] = [[x], [y], [z]] := rfl
def gOf (ops : Array Oper) (j : Nat) (e : Env) : AV := gDst ((ops[j]?).bind (·.dst)) e
where gDst : Option Nat → Env → AV
  | some t, e => e t
  | none, _ => .any
def guardE (A B : Option (Env × Hp)) (w : Bool) : AV → Option (Env × Hp)
  | .v (.bool b) => if (b == w) = true then A else B
  | .v (.tuple _) => B
  | _ => none
theorem asteps_guard {pol : Nat → Nat} {cf : CallF} (ops : Array Oper) (d : Option Nat) (op : Op) (ty : TypeId) (pos : String) (aft : Array Edge) (j : Nat) (w : Bool) (r : List Oper) (e : Env) (H : Hp) :
    asteps P pol cf ops (⟨d, op, ty, pos, aft, some (j, w)⟩ :: r) e H = guardE (thenE P pol cf ops r e d (aop P pol cf ⟨d, op, 0, "", #[], none⟩ e H)) (asteps P pol cf ops r (put e d (.v undef)) H) w (gOf ops j e) := by
  show (astep P pol cf ops ⟨d, op, ty, pos, aft, some (j, w)⟩ e H).bind _ = _
  unfold astep awanted gOf
  simp only
  cases hj : (ops[j]?).bind (·.dst) with
  | none => rfl
  | some t =>
    simp only [gOf.gDst]
    cases hx : e t with
    | v y =>
      cases y with
      | bool b =>
        simp only [guardE, Option.bind_some]
        cases hb : (b == w) with
        | true =>
          simp only [if_true]
          show ((aop P pol cf ⟨d, op, 0, "", #[], none⟩ e H).map fun x => (put e d x.1, x.2)).bind _ = _
          cases aop P pol cf ⟨d, op, 0, "", #[], none⟩ e H <;> rfl
        | false => rfl
      | _ => rfl
    | _ => rfl
/-- An operation under a guard whose value is not known yet: nothing is reckoned behind it. -/
def guardL (P : Program) (pol : Nat → Nat) (cf : CallF) (ops : Array Oper) (d : Option Nat) (op : Op) (r : List Oper) (e : Env) (H : Hp) (w : Bool) (g : AV) : Option (Env × Hp) :=
  guardE (thenE P pol cf ops r e d (aop P pol cf ⟨d, op, 0, "", #[], none⟩ e H)) (asteps P pol cf ops r (put e d (.v undef)) H) w g
theorem asteps_guardL {pol : Nat → Nat} {cf : CallF} (ops : Array Oper) (d : Option Nat) (op : Op) (ty : TypeId) (pos : String) (aft : Array Edge) (j : Nat) (w : Bool) (r : List Oper) (e : Env) (H : Hp) :
    asteps P pol cf ops (⟨d, op, ty, pos, aft, some (j, w)⟩ :: r) e H = guardL P pol cf ops d op r e H w (gOf ops j e) := asteps_guard ops d op ty pos aft j w r e H
theorem guardL_tt {pol : Nat → Nat} {cf : CallF} (ops : Array Oper) (d : Option Nat) (op : Op) (r : List Oper) (e : Env) (H : Hp) : guardL P pol cf ops d op r e H true (.v (.bool true)) = thenE P pol cf ops r e d (aop P pol cf ⟨d, op, 0, "", #[], none⟩ e H) := rfl
theorem guardL_ff {pol : Nat → Nat} {cf : CallF} (ops : Array Oper) (d : Option Nat) (op : Op) (r : List Oper) (e : Env) (H : Hp) : guardL P pol cf ops d op r e H false (.v (.bool false)) = thenE P pol cf ops r e d (aop P pol cf ⟨d, op, 0, "", #[], none⟩ e H) := rfl
theorem guardL_tf {pol : Nat → Nat} {cf : CallF} (ops : Array Oper) (d : Option Nat) (op : Op) (r : List Oper) (e : Env) (H : Hp) : guardL P pol cf ops d op r e H true (.v (.bool false)) = asteps P pol cf ops r (put e d (.v undef)) H := rfl
theorem guardL_ft {pol : Nat → Nat} {cf : CallF} (ops : Array Oper) (d : Option Nat) (op : Op) (r : List Oper) (e : Env) (H : Hp) : guardL P pol cf ops d op r e H false (.v (.bool true)) = asteps P pol cf ops r (put e d (.v undef)) H := rfl
theorem guardL_un {pol : Nat → Nat} {cf : CallF} (ops : Array Oper) (d : Option Nat) (op : Op) (r : List Oper) (e : Env) (H : Hp) (w : Bool) : guardL P pol cf ops d op r e H w (.v undef) = asteps P pol cf ops r (put e d (.v undef)) H := rfl
theorem guardL_if {pol : Nat → Nat} {cf : CallF} (ops : Array Oper) (d : Option Nat) (op : Op) (r : List Oper) (e : Env) (H : Hp) (w b : Bool) : guardL P pol cf ops d op r e H w (.v (.bool b)) = if b = true then guardL P pol cf ops d op r e H w (.v (.bool true)) else guardL P pol cf ops d op r e H w (.v (.bool false)) := by
  cases b <;> rfl
def callV (cf : CallF) (p : Nat) (as : List AV) (H : Hp) : AV → Option (AV × Hp)
  | .fn g caps => cf p g (as ++ caps) H
  | _ => none
theorem op_callv {pol : Nat → Nat} {cf : CallF} (d : Option Nat) (t : Nat) (args : Array Operand) (ts : Array TypeId) (e : Env) (H : Hp) : aop P pol cf ⟨d, .call ⟨.value (.tmp t), args, ts⟩, 0, "", #[], none⟩ e H = callV cf (pol (d.getD 0)) (args.toList.map (opd e)) H (e t) := rfl
theorem callV_fn (cf : CallF) (p g : Nat) (caps as : List AV) (H : Hp) : callV cf p as H (.fn g caps) = cf p g (as ++ caps) H := rfl
def lenD : Option TypeDesc → AV → Option AV
  | some .string, .v (.string s) => some (.v (.int .i64 s.size))
  | some (.slice _), .v (.slice none n _) => some (.v (.int .i64 n))
  | some (.slice _), .lst _ xs => some (.v (.int .i64 xs.length))
  | some (.slice _), .sl _ _ _ n => some (.v (.int .i64 n))
  | some (.array n _), _ => some (.v (.int .i64 n))
  | _, _ => none
theorem b_len (t : TypeId) (ts : List TypeId) (x : AV) : builtin0 P .len (t :: ts) [x] = lenD (P.underlying t) x := by
  simp only [builtin0]
  cases P.underlying t with
  | none => rfl
  | some d =>
    cases d <;> first
      | rfl
      | (cases x <;> first
          | rfl
          | (rename_i y; cases y <;> first | rfl | (rename_i a n c; cases a <;> rfl)))
theorem lenD_nil (e : TypeId) (n c : Nat) : lenD (some (.slice e)) (.v (.slice none n c)) = some (.v (.int .i64 n)) := rfl
theorem lenD_str (s : ByteArray) : lenD (some .string) (.v (.string s)) = some (.v (.int .i64 s.size)) := rfl
theorem lenD_lst (e : TypeId) (fu : Bool) (xs : List (List AV)) : lenD (some (.slice e)) (.lst fu xs) = some (.v (.int .i64 xs.length)) := rfl
theorem lenD_sl (e : TypeId) (b sz o n : Nat) : lenD (some (.slice e)) (.sl b sz o n) = some (.v (.int .i64 n)) := rfl
theorem lenD_arr (n : Nat) (e : TypeId) (x : AV) : lenD (some (.array n e)) x = some (.v (.int .i64 n)) := by cases x <;> rfl
theorem b_max (ts : List TypeId) (k : IntKind) (a b : Int) : builtin0 P .max ts [.v (.int k a), .v (.int k b)] = some (.v (.int k (if a < b then b else a))) := by simp [builtin0]
theorem b_min (ts : List TypeId) (k : IntKind) (a b : Int) : builtin0 P .min ts [.v (.int k a), .v (.int k b)] = some (.v (.int k (if b < a then b else a))) := by simp [builtin0]
theorem op_call {pol : Nat → Nat} {cf : CallF} (d : Option Nat) (f : FuncId) (args : Array Operand) (ts : Array TypeId) (e : Env) (H : Hp) : aop P pol cf ⟨d, .call ⟨.value (.func f), args, ts⟩, 0, "", #[], none⟩ e H = cf (pol (d.getD 0)) f (args.toList.map (opd e)) H := by
  simp [aop, opd]
theorem op_builtin {pol : Nat → Nat} {cf : CallF} (d : Option Nat) (b : Builtin) (args : Array Operand) (ts : Array TypeId) (e : Env) (H : Hp) : aop P pol cf ⟨d, .call ⟨.builtin b, args, ts⟩, 0, "", #[], none⟩ e H = builtinOp P H b ts.toList (args.toList.map (opd e)) := rfl
/-! Free reads: run on a heap K whose blocks the region leaves (mostly none). -/
def frQ (pol : Nat → Nat) (d : Option Nat) (op : Op) : Bool := pol (d.getD 0) == 3 && frK op
def hF (K H : Hp) : Bool → Hp
  | true => K
  | false => H
def bF (H : Hp) : Bool → Option (AV × Hp) → Option (AV × Hp)
  | true, some r => some (r.1, H)
  | true, none => none
  | false, x => x
/-- A heap of one block. -/
def Hp.one (b : Nat) (cs : List AV) : Hp := ⟨fun b' => if b' = b then some cs else none, b + 1⟩
open Classical in
/-- Are K's blocks still there? -/
noncomputable def kF (K : Hp) (H : Hp) {α : Type} (x : Option α) : Option α := if HExt K H then x else none
theorem kF_nil {α : Type} (H : Hp) (x : Option α) : kF Hp.nil H x = x := by
  unfold kF; rw [if_pos]; intro b cs h; simp [Hp.nil] at h
open Classical in
theorem kF_one {α : Type} (b : Nat) (cs : List AV) (H : Hp) (x : Option α) : kF (Hp.one b cs) H x = if H.h b = some cs then x else none := by
  unfold kF
  by_cases hb : H.h b = some cs
  · rw [if_pos hb, if_pos]
    intro b' cs' h
    simp only [Hp.one] at h
    split at h
    · rename_i e; subst e; rw [hb]; exact h
    · simp at h
  · rw [if_neg hb, if_neg]
    intro h
    exact hb (h b cs (by simp [Hp.one]))
noncomputable def thenF (P : Program) (pol : Nat → Nat) (cf : CallF) (ops : Array Oper) (K : Hp) (f : Env → Hp → Option (Env × Hp)) (e : Env) (d : Option Nat) : Option (AV × Hp) → Option (Env × Hp)
  | some (v, H) => kF K H (f (put e d v) H)
  | none => none
noncomputable def astepsF (P : Program) (pol : Nat → Nat) (cf : CallF) (ops : Array Oper) (K : Hp) : List Oper → Env → Hp → Option (Env × Hp)
  | [], e, H => some (e, H)
  | o :: r, e, H => (awanted ops o e).bind fun w => if w then thenF P pol cf ops K (astepsF P pol cf ops K r) e o.dst (bF H (frQ pol o.dst o.op) (aop P pol cf o e (hF K H (frQ pol o.dst o.op)))) else astepsF P pol cf ops K r (put e o.dst (.v undef)) H
theorem aop_read {pol : Nat → Nat} {cf cf' : CallF} {o : Oper} {e : Env} {H : Hp} (h : readOp o = true) : aop P pol cf o e H = aop P pol cf' o e H := by
  obtain ⟨dst, op, ty, pos, after, guard⟩ := o
  unfold aop
  cases op <;> first | rfl | (exfalso; simp [readOp] at h; done) | skip
  case makeFunc fn a b => cases fn <;> rfl
theorem frK_read {o : Oper} (h : frK o.op = true) : readOp o = true := by
  obtain ⟨dst, op, ty, pos, after, guard⟩ := o
  cases op <;> first | rfl | (exfalso; simp [frK] at h)
theorem bF_real {pol : Nat → Nat} {cf : CallF} {o : Oper} {e : Env} {K H : Hp} {r : AV × Hp} (hK : HExt K H) (h : bF H (frQ pol o.dst o.op) (aop P pol cf o e (hF K H (frQ pol o.dst o.op))) = some r) :
    aop P pol cf o e H = some r ∧ (frQ pol o.dst o.op = true → ∀ H2, HExt K H2 → aop P pol cf o e H2 = some (r.1, H2)) := by
  cases hq : frQ pol o.dst o.op with
  | false => rw [hq] at h; exact ⟨h, fun h => by simp at h⟩
  | true =>
    rw [hq] at h
    simp only [hF] at h
    cases ha : aop P pol cf o e K with
    | none => rw [ha] at h; simp [bF] at h
    | some q =>
      obtain ⟨v, H'⟩ := q
      rw [ha] at h
      simp only [bF, Option.some.injEq] at h
      subst h
      have hk : frK o.op = true := by unfold frQ at hq; rw [Bool.and_eq_true] at hq; exact hq.2
      have hr := frK_read hk
      let cfg1 : Cfg := { pol := fun _ => pol, raw := fun _ => false }
      let cf0 : CallF := fun _ _ _ _ => none
      have hce : CfExt cfg1 cf0 := ⟨fun p f as H v H' H2 _ _ h _ => by simp [cf0] at h, fun f as H v H' _ _ h => by simp [cf0] at h⟩
      have hk1 : opKind cfg1 0 o = 1 := by
        obtain ⟨dst, op, ty, pos, after, guard⟩ := o
        unfold opKind
        cases op <;> first | (simp [frK] at hk; done) | rfl
      have all : ∀ H2, HExt K H2 → aop P pol cf o e H2 = some (v, H2) := fun H2 he => by
        rw [aop_read (cf' := cf0) hr] at ha ⊢
        exact aop_ext (cfg := cfg1) (fid := 0) hce hk1 ha he
      exact ⟨all H hK, fun _ => all⟩
theorem stepsF_ok {pol : Nat → Nat} {cf : CallF} (ops : Array Oper) {K : Hp} : ∀ (l : List Oper) (e : Env) (H : Hp) (x : Env × Hp), HExt K H → astepsF P pol cf ops K l e H = some x → asteps P pol cf ops l e H = some x ∧
    (∀ i si, asteps P pol cf ops (l.take i) e H = some si → HExt K si.2) ∧
    ∀ i o, l[i]? = some o → frQ pol o.dst o.op = true → ∀ si, asteps P pol cf ops (l.take i) e H = some si → ∃ v, ∀ H2, HExt K H2 → stepV P pol cf ops o si.1 H2 = some (v, H2) := by
  intro l
  induction l with
  | nil =>
    intro e H x hK h
    refine ⟨h, fun i si hs => ?_, fun i o h => by simp at h⟩
    simp only [List.take_nil, asteps, Option.some.injEq] at hs
    subst hs; exact hK
  | cons o r ih =>
    intro e H x hK h
    obtain ⟨w, hw, h3⟩ := Option.bind_eq_some_iff.1 h
    have h4 : ∃ s1, astep P pol cf ops o e H = some s1 ∧ HExt K s1.2 ∧ astepsF P pol cf ops K r s1.1 s1.2 = some x ∧ (frQ pol o.dst o.op = true → ∃ v, ∀ H2, HExt K H2 → stepV P pol cf ops o e H2 = some (v, H2)) := by
      unfold astep stepV
      rw [hw]
      simp only [Option.bind_some]
      cases w with
      | false => simp only [Bool.false_eq_true, if_false] at h3 ⊢; exact ⟨_, rfl, hK, h3, fun _ => ⟨_, fun _ _ => rfl⟩⟩
      | true =>
        simp only [if_true] at h3 ⊢
        cases h5 : bF H (frQ pol o.dst o.op) (aop P pol cf o e (hF K H (frQ pol o.dst o.op))) with
        | none => rw [h5] at h3; simp [thenF] at h3
        | some q =>
          obtain ⟨v, H'⟩ := q
          obtain ⟨b1, b2⟩ := bF_real hK h5
          rw [h5] at h3
          simp only [thenF, kF] at h3
          split at h3
          · rename_i hk
            rw [b1]
            exact ⟨_, rfl, hk, h3, fun hq => ⟨_, b2 hq⟩⟩
          · simp at h3
    obtain ⟨s1, g1, g2, g3, g4⟩ := h4
    obtain ⟨i1, i2, i3⟩ := ih _ _ _ g2 g3
    refine ⟨by rw [asteps, g1]; exact i1, fun i si hs => ?_, fun i o' ho hq si hs => ?_⟩
    · cases i with
      | zero =>
        simp only [List.take_zero, asteps, Option.some.injEq] at hs
        subst hs; exact hK
      | succ i =>
        rw [List.take_succ_cons, asteps, g1] at hs
        exact i2 i si hs
    cases i with
    | zero =>
      simp only [List.getElem?_cons_zero, Option.some.injEq] at ho
      subst ho
      simp only [List.take_zero, asteps, Option.some.injEq] at hs
      subst hs
      exact g4 hq
    | succ i =>
      simp only [List.getElem?_cons_succ] at ho
      rw [List.take_succ_cons, asteps, g1] at hs
      exact i3 i o' ho hq si hs
theorem late_free {pol : Nat → Nat} {cf : CallF} {ops : Array Oper} {s : St} {K : Hp} (hK : HExt K s.2) {x : Env × Hp} (hn : (ops.toList.all fun o => !lateO pol o) = true) (h : astepsF P pol cf ops K ops.toList s.1 s.2 = some x) : asteps P pol cf ops ops.toList s.1 s.2 = some x ∧ LateOk P pol cf ops s := by
  obtain ⟨h1, h2, h3⟩ := stepsF_ok ops _ _ _ _ hK h
  refine ⟨h1, fun i o ho hl => ?_, fun i o ho hf si hs => ?_⟩
  · have := List.all_eq_true.1 hn o (by rw [← toList_get] at ho; exact List.mem_of_getElem? ho)
    rw [hl] at this; simp at this
  · obtain ⟨v, hv⟩ := h3 i o (by rw [toList_get]; exact ho) (by
      simp only [freeO, Bool.and_eq_true] at hf
      unfold frQ
      rw [hf.1.2, hf.2]; rfl) si hs
    exact ⟨v, fun k sk _ hsk => hv _ (h2 k sk hsk)⟩
theorem wRegK (K : Hp) {id : Nat} {ops : Array Oper} {d : Bool} (hK : HExt K s.2) (h : ∀ x, astepsF P (cfg.pol fid) (call P cfg) ops K ops.toList s.1 s.2 = x → ∃ s', x = some s' ∧ Q .normal s') (hn : (ops.toList.all fun o => !lateO (cfg.pol fid) o) = true := by rfl) : Wp P cfg fid (.region id ops d) s Q := by
  obtain ⟨s', h1, h2⟩ := h _ rfl
  obtain ⟨h3, h4⟩ := late_free hK hn h1
  exact wRegL fun x hx => ⟨s', by rw [← hx]; exact h3, h4, h2⟩
theorem wSeqrK (K : Hp) {id : Nat} {ops : Array Oper} {d : Bool} {b : Code} (hK : HExt K s.2) (h : ∀ x, astepsF P (cfg.pol fid) (call P cfg) ops K ops.toList s.1 s.2 = x → ∃ s', x = some s' ∧ Wp P cfg fid b s' Q) (hn : (ops.toList.all fun o => !lateO (cfg.pol fid) o) = true := by rfl) : Wp P cfg fid (.seq (.region id ops d) b) s Q :=
  wSeq (wRegK K hK h hn)
theorem hExt_nil (H : Hp) : HExt Hp.nil H := fun b cs h => by simp [Hp.nil] at h
theorem hExt_one {b : Nat} {cs : List AV} {H : Hp} (h : H.h b = some cs) : HExt (Hp.one b cs) H := fun b' cs' h' => by
  simp only [Hp.one] at h'
  split at h'
  · rename_i e; subst e; rw [h]; exact h'
  · simp at h'
theorem wRegF {id : Nat} {ops : Array Oper} {d : Bool} (h : ∀ x, astepsF P (cfg.pol fid) (call P cfg) ops Hp.nil ops.toList s.1 s.2 = x → ∃ s', x = some s' ∧ Q .normal s') (hn : (ops.toList.all fun o => !lateO (cfg.pol fid) o) = true := by rfl) : Wp P cfg fid (.region id ops d) s Q := wRegK _ (hExt_nil _) h hn
theorem wSeqrF {id : Nat} {ops : Array Oper} {d : Bool} {b : Code} (h : ∀ x, astepsF P (cfg.pol fid) (call P cfg) ops Hp.nil ops.toList s.1 s.2 = x → ∃ s', x = some s' ∧ Wp P cfg fid b s' Q) (hn : (ops.toList.all fun o => !lateO (cfg.pol fid) o) = true := by rfl) : Wp P cfg fid (.seq (.region id ops d) b) s Q :=
  wSeqrK _ (hExt_nil _) h hn
theorem thenF_some {pol : Nat → Nat} {cf : CallF} (ops : Array Oper) (K : Hp) (f : Env → Hp → Option (Env × Hp)) (e : Env) (d : Option Nat) (v : AV) (H : Hp) : thenF P pol cf ops K f e d (some (v, H)) = kF K H (f (put e d v) H) := rfl
theorem astepsF_nil {pol : Nat → Nat} {cf : CallF} (ops : Array Oper) (K : Hp) (e : Env) (H : Hp) : astepsF P pol cf ops K [] e H = some (e, H) := rfl
theorem astepsF_one {pol : Nat → Nat} {cf : CallF} (ops : Array Oper) (K : Hp) (d : Option Nat) (op : Op) (ty : TypeId) (pos : String) (aft : Array Edge) (r : List Oper) (e : Env) (H : Hp) :
    astepsF P pol cf ops K (⟨d, op, ty, pos, aft, none⟩ :: r) e H = thenF P pol cf ops K (astepsF P pol cf ops K r) e d (bF H (frQ pol d op) (aop P pol cf ⟨d, op, 0, "", #[], none⟩ e (hF K H (frQ pol d op)))) := rfl
noncomputable def guardF (P : Program) (pol : Nat → Nat) (cf : CallF) (ops : Array Oper) (K : Hp) (d : Option Nat) (op : Op) (r : List Oper) (e : Env) (H : Hp) (w : Bool) (g : AV) : Option (Env × Hp) :=
  guardE (thenF P pol cf ops K (astepsF P pol cf ops K r) e d (bF H (frQ pol d op) (aop P pol cf ⟨d, op, 0, "", #[], none⟩ e (hF K H (frQ pol d op))))) (astepsF P pol cf ops K r (put e d (.v undef)) H) w g
theorem astepsF_guard {pol : Nat → Nat} {cf : CallF} (ops : Array Oper) (K : Hp) (d : Option Nat) (op : Op) (ty : TypeId) (pos : String) (aft : Array Edge) (j : Nat) (w : Bool) (r : List Oper) (e : Env) (H : Hp) :
    astepsF P pol cf ops K (⟨d, op, ty, pos, aft, some (j, w)⟩ :: r) e H = guardF P pol cf ops K d op r e H w (gOf ops j e) := by
  rw [astepsF]
  unfold awanted gOf guardF
  simp only
  cases hj : (ops[j]?).bind (·.dst) with
  | none => rfl
  | some t =>
    simp only [gOf.gDst]
    cases hx : e t with
    | v y =>
      cases y with
      | bool b =>
        simp only [guardE, Option.bind_some]
        cases hb : (b == w) with
        | true => simp only [if_true]; rfl
        | false => rfl
      | _ => rfl
    | _ => rfl
theorem guardF_tt {pol : Nat → Nat} {cf : CallF} (ops : Array Oper) (K : Hp) (d : Option Nat) (op : Op) (r : List Oper) (e : Env) (H : Hp) : guardF P pol cf ops K d op r e H true (.v (.bool true)) = thenF P pol cf ops K (astepsF P pol cf ops K r) e d (bF H (frQ pol d op) (aop P pol cf ⟨d, op, 0, "", #[], none⟩ e (hF K H (frQ pol d op)))) := rfl
theorem guardF_ff {pol : Nat → Nat} {cf : CallF} (ops : Array Oper) (K : Hp) (d : Option Nat) (op : Op) (r : List Oper) (e : Env) (H : Hp) : guardF P pol cf ops K d op r e H false (.v (.bool false)) = thenF P pol cf ops K (astepsF P pol cf ops K r) e d (bF H (frQ pol d op) (aop P pol cf ⟨d, op, 0, "", #[], none⟩ e (hF K H (frQ pol d op)))) := rfl
theorem guardF_tf {pol : Nat → Nat} {cf : CallF} (ops : Array Oper) (K : Hp) (d : Option Nat) (op : Op) (r : List Oper) (e : Env) (H : Hp) : guardF P pol cf ops K d op r e H true (.v (.bool false)) = astepsF P pol cf ops K r (put e d (.v undef)) H := rfl
theorem guardF_ft {pol : Nat → Nat} {cf : CallF} (ops : Array Oper) (K : Hp) (d : Option Nat) (op : Op) (r : List Oper) (e : Env) (H : Hp) : guardF P pol cf ops K d op r e H false (.v (.bool true)) = astepsF P pol cf ops K r (put e d (.v undef)) H := rfl
theorem guardF_un {pol : Nat → Nat} {cf : CallF} (ops : Array Oper) (K : Hp) (d : Option Nat) (op : Op) (r : List Oper) (e : Env) (H : Hp) (w : Bool) : guardF P pol cf ops K d op r e H w (.v undef) = astepsF P pol cf ops K r (put e d (.v undef)) H := rfl
theorem guardF_if {pol : Nat → Nat} {cf : CallF} (ops : Array Oper) (K : Hp) (d : Option Nat) (op : Op) (r : List Oper) (e : Env) (H : Hp) (w b : Bool) : guardF P pol cf ops K d op r e H w (.v (.bool b)) = if b = true then guardF P pol cf ops K d op r e H w (.v (.bool true)) else guardF P pol cf ops K d op r e H w (.v (.bool false)) := by
  cases b <;> rfl
theorem hF_t (K H : Hp) : hF K H true = K := rfl
theorem hF_f (K H : Hp) : hF K H false = H := rfl
theorem bF_t (H H' : Hp) (v : AV) : bF H true (some (v, H')) = some (v, H) := rfl
theorem bF_f (H : Hp) (x : Option (AV × Hp)) : bF H false x = x := rfl
theorem one_h (b : Nat) (cs : List AV) : (Hp.one b cs).h b = some cs := by simp [Hp.one]
theorem frK_load (t : TypeId) (a : Operand) : frK (.load t a) = true := rfl
theorem frK_conv (s t : TypeId) (a : Operand) : frK (.convert s t a) = true := rfl
theorem frK_slice (t : TypeId) (x : Operand) (lo hi mx : Option Operand) : frK (.slice t x lo hi mx) = true := rfl
theorem frK_index (t : TypeId) (x i : Operand) : frK (.indexAddr t x i) = true := rfl
end
end Go.Proofs.YtnejoidfbgklbaaGreatDoor.Eng
