/- The engine, part 1: an abstract evaluator over the program's code. Values are exact, or lists that are read, or names of own blocks; it follows one order and no capacities. -/
import Derived.Orders
import Derived.WalkKit
namespace Go.Proofs.YtnejoidfbgklbaaGreatDoor.Eng
open Go
set_option linter.unusedSimpArgs false
set_option linter.unusedVariables false

/-- Abstract values: 'v' is exact; 'lst' a slice that is only read (fu: its capacity is its length); 'fp' a pointer into cells that are only read; 'ifc' a value of an interface of which is told whether it is nil (false); 'sl', 'ptr' into own blocks. -/
inductive AV where
  | any
  | v (x : Value)
  | lst (fu : Bool) (xs : List (List AV))
  | fp (cs : List AV) (o : Nat)
  | sl (b sz o n : Nat)
  | ptr (b o : Nat)
  | agg (cs : List AV)
  | tup (vs : List AV)
  | fn (f : Nat) (caps : List AV)
  | ifc (b : Bool)
  deriving Inhabited

structure Hp where
  h : Nat → Option (List AV)
  g : Nat

def Hp.nil : Hp := ⟨fun _ => none, 0⟩
def Hp.new (H : Hp) (cs : List AV) : Hp := ⟨fun b => if b = H.g then some cs else H.h b, H.g + 1⟩
def Hp.set (H : Hp) (b : Nat) (cs : List AV) : Hp := ⟨fun b' => if b' = b then some cs else H.h b', H.g⟩
def Hp.del (H : Hp) (b : Nat) : Hp := ⟨fun b' => if b' = b then none else H.h b', H.g⟩

abbrev Env := Nat → AV
def upd (e : Env) (t : Nat) (x : AV) : Env := fun t' => if t' = t then x else e t'
def put (e : Env) (d : Option Nat) (x : AV) : Env := match d with | some t => upd e t x | none => e

def ofV : Value → AV
  | .agg cs => .agg (cs.toList.map .v)
  | x => .v x

def opd (e : Env) : Operand → AV
  | .tmp t => e t
  | .const x => ofV x
  | .global g => .v (.pointer (some ⟨g, 0, none⟩))
  | .func f => .fn f []

/-- May the value lie in one cell? -/
def okc : AV → Bool
  | .any | .agg _ | .tup _ | .ifc _ => false
  | .v x => x.oneCell'
  | _ => true

def asCells : AV → Option (List AV)
  | .agg cs => some cs
  | x => if okc x then some [x] else none

def setAll (cs : List AV) (o : Nat) : List AV → List AV
  | [] => cs
  | y :: ys => setAll (cs.set o y) (o + 1) ys

section
variable (P : Program)

def aggD : TypeDesc → Bool
  | .struct _ => true
  | .array _ _ => true
  | _ => false
/-- Is a value of the type of several cells? -/
def aggT (t : TypeId) : Option Bool := (P.underlying t).map aggD
def szOf (t : TypeId) : Option Nat := (P.info? t).map (·.size)
def bytesOf (t : TypeId) : Option Nat := (P.info? t).map (·.bytes)
/-- The cells of a type's zero value, as many as its size says, each of them one cell. -/
def zeroOf (t : TypeId) : Option (List AV) := match P.info? t with
  | some i => match i.zero with
    | some z => if z.cells.size = i.size ∧ z.cells.toList.all Value.oneCell' then some (z.cells.toList.map .v) else none
    | none => none
  | none => none
def elemOf? (t : TypeId) : Option TypeId := match P.underlying t with
  | some (.slice e) => some e
  | _ => none
def arrOf? (t : TypeId) : Option (Nat × TypeId) := match P.underlying t with
  | some (.array n e) => some (n, e)
  | _ => none
def fieldOf? (s : TypeId) (f : Nat) : Option Field := match P.underlying s with
  | some (.struct fs) => fs[f]?
  | _ => none

def ldc (t : TypeId) (cs : List AV) (o : Nat) : Option AV := (aggT P t).bind fun ag =>
  if ag then (szOf P t).bind fun n => if o + n ≤ cs.length then some (.agg ((cs.drop o).take n)) else none
  else cs[o]?

def aload (H : Hp) (t : TypeId) : AV → Option AV
  | .ptr b o => (H.h b).bind fun cs => ldc P t cs o
  | .fp cs o => ldc P t cs o
  | _ => none

def astore (H : Hp) (t : TypeId) (a x : AV) : Option Hp := match a with
  | .ptr b o => (H.h b).bind fun cs => (asCells x).bind fun ys => (szOf P t).bind fun n =>
    if ys.length = n ∧ o + n ≤ cs.length ∧ ys.all okc = true then some (H.set b (setAll cs o ys)) else none
  | _ => none

/-- Field by field: the parts of a composite value. -/
def afill (place : Nat → Option (Nat × Nat)) (cs : List AV) : List (Nat × AV) → Option (List AV)
  | [] => some cs
  | (i, x) :: rest => (place i).bind fun (o, n) => (asCells x).bind fun ys =>
    if ys.length = n ∧ o + n ≤ cs.length then afill place (setAll cs o ys) rest else none

def aparts (e : Env) (ps : Array (Nat × Operand)) : List (Nat × AV) := ps.toList.map fun (i, x) => (i, opd e x)

/-- Where a struct's fields lie, and their sizes. -/
def placesOf (t : TypeId) : Option (List (Nat × Nat)) := match P.underlying t with
  | some (.struct fs) => fs.toList.mapM fun f => (szOf P f.type).map fun n => (f.offset, n)
  | _ => none

def abuild (t : TypeId) (ps : List (Nat × AV)) : Option AV := (zeroOf P t).bind fun z =>
  match arrOf? P t with
  | some (_, el) => (szOf P el).bind fun n => (afill (fun i => some (i * n, n)) z ps).map .agg
  | none => (placesOf P t).bind fun pl => (afill (fun i => pl[i]?) z ps).map .agg

def zeros (n : Nat) (z : List AV) : List AV := (List.replicate n z).flatten

def abuildSlice (t : TypeId) (len : Nat) (ps : List (Nat × AV)) : Option (List AV × Nat) :=
  (elemOf? P t).bind fun el => (zeroOf P el).bind fun z =>
    if len * z.length ≤ 16777216 ∧ ps.all (fun p => (asCells p.2).isSome) = true then (afill (fun i => some (i * z.length, z.length)) (zeros len z) ps).map fun cs => (cs, z.length) else none

def chunk (sz : Nat) : Nat → List AV → List (List AV)
  | 0, _ => []
  | n + 1, cs => cs.take sz :: chunk sz n (cs.drop sz)

def exact2 (x y : AV) : Option (Value × Value) := match x, y with
  | .v a, .v b => some (a, b)
  | _, _ => none

/-- Binary operators on exact numbers, texts and bools. -/
def abinV (op : BinOp) (x y : Value) : Option Value := match x, y with
  | .int k a, .int k' b =>
    match op with
    | .shl => if 0 ≤ b then some (.int k (k.wrap (a * 2 ^ min b.toNat k.bits))) else none
    | .shr => if 0 ≤ b then some (.int k (a.fdiv (2 ^ min b.toNat k.bits))) else none
    | op => if k = k' then match op with
      | .add => some (.int k (k.wrap (a + b)))
      | .sub => some (.int k (k.wrap (a - b)))
      | .mul => some (.int k (k.wrap (a * b)))
      | .quo => if b = 0 then none else some (.int k (k.wrap (a.tdiv b)))
      | .rem => if b = 0 then none else some (.int k (a.tmod b))
      | .and => some (.int k (k.wrap (BitVec.ofInt k.bits a &&& BitVec.ofInt k.bits b).toNat))
      | .or => some (.int k (k.wrap (BitVec.ofInt k.bits a ||| BitVec.ofInt k.bits b).toNat))
      | .xor => some (.int k (k.wrap (BitVec.ofInt k.bits a ^^^ BitVec.ofInt k.bits b).toNat))
      | .andNot => some (.int k (k.wrap (BitVec.ofInt k.bits a &&& ~~~ BitVec.ofInt k.bits b).toNat))
      | .eql => some (.bool (decide (a = b)))
      | .neq => some (.bool (decide (a ≠ b)))
      | .lss => some (.bool (decide (a < b)))
      | .leq => some (.bool (decide (a ≤ b)))
      | .gtr => some (.bool (decide (b < a)))
      | .geq => some (.bool (decide (b ≤ a)))
      | _ => none
      else none
  | .string a, .string b =>
    match op with
    | .add => if a.size + b.size ≤ 4611686018427387904 then some (.string (a ++ b)) else none
    | .eql => some (.bool (a.toList == b.toList))
    | .neq => some (.bool (!(a.toList == b.toList)))
    | .lss => some (.bool (Op.bytesLess a.toList b.toList))
    | _ => none
  | _, _ => none

/-- '==' of two exact values of plain types: 0 numbers, 1 bools, 2 texts. -/
def eqK (k : Nat) (x y : Value) : Option Bool := match k, x, y with
  | 0, .int k a, .int k' b => if k = k' then some (decide (a = b)) else none
  | 1, .bool a, .bool b => some (a == b)
  | 2, .string a, .string b => some (a.toList == b.toList)
  | _, _, _ => none
def kindCode (t : TypeId) : Option Nat := match P.underlying t with
  | some (.int _) => some 0
  | some .bool => some 1
  | some .string => some 2
  | _ => none
/-- The fields of a struct all of which are plain: where they lie, and what they are. -/
def planOf (t : TypeId) : Option (List (Nat × Nat)) := match P.underlying t with
  | some (.struct fs) => if P.stoodInHeld t = false ∧ P.eqGuardType P.depth t = false then fs.toList.mapM (fun f => if f.name = "_" then none else (kindCode P f.type).map (f.offset, ·)) else none
  | _ => none

def exactAll : List AV → Option (List Value)
  | [] => some []
  | .v x :: r => (exactAll r).map (x :: ·)
  | _ => none

def eqBy : List (Nat × Nat) → List Value → List Value → Option Bool
  | [], _, _ => some true
  | (o, k) :: r, xs, ys => (xs[o]?).bind fun x => (ys[o]?).bind fun y => (eqK k x y).bind fun b => (eqBy r xs ys).map fun c => b && c

/-- Which comparisons with nil are known: 1 of slices, 2 of pointers. -/
def nilT (t : TypeId) : Nat := match P.underlying t with
  | some (.slice _) => 1
  | some (.pointer _) => 2
  | _ => 0
def nilCmp (k : Nat) (x y : AV) : Option Bool := match k, x, y with
  | 1, .v (.slice none _ _), .v (.slice none _ _) => some true
  | 1, .lst _ (_ :: _), .v (.slice none _ _) => some false
  | 2, .ptr _ _, .v (.pointer none) => some false
  | 2, .fp _ _, .v (.pointer none) => some false
  | 2, .v (.pointer none), .v (.pointer none) => some true
  | 1, .v (.slice (some _) _ _), .v (.slice none _ _) => some false
  | 1, .sl _ _ _ n, .v (.slice none _ _) => if n = 0 then none else some false
  | _, _, _ => none
/-- Comparisons of such a value with the literal nil. -/
def nilQ (op : BinOp) (t : TypeId) (x : AV) : Option AV := match P.underlying t, x, op with
  | some (.interface _), .ifc b, .eql => some (.v (.bool (!b)))
  | some (.interface _), .ifc b, .neq => some (.v (.bool b))
  | some (.interface _), .v (.iface _ _), .eql => some (.v (.bool false))
  | some (.interface _), .v (.iface _ _), .neq => some (.v (.bool true))
  | some (.interface _), .v .nilIface, .eql => some (.v (.bool true))
  | some (.interface _), .v .nilIface, .neq => some (.v (.bool false))
  | _, _, _ => none
/-- Is it a type of values, no interface? -/
def conc (t : TypeId) : Bool := match P.underlying t with
  | some (.interface _) => false
  | some _ => true
  | none => false
/-- An exact value of a concrete type as an interface's. -/
def amkI (t : TypeId) (x : AV) : Option AV := match x with
  | .v y => if conc P t = true then some (.v (.iface t y)) else none
  | _ => none
def isNilC : Operand → Bool
  | .const .nilIface => true
  | _ => false
def eqOp : BinOp → Option Bool
  | .eql => some true
  | .neq => some false
  | _ => none

def abin (op : BinOp) (t : TypeId) (x y : AV) : Option AV := match x, y with
  | .v (.bool a), .v (.bool b) => match op, P.underlying t with
    | .eql, some .bool => some (.v (.bool (a == b)))
    | .neq, some .bool => some (.v (.bool (!(a == b))))
    | _, _ => none
  | .agg xs, .agg ys => (exactAll xs).bind fun xs => (exactAll ys).bind fun ys => (planOf P t).bind fun pl => match op with
    | .eql => (eqBy pl xs ys).map fun b => .v (.bool b)
    | .neq => (eqBy pl xs ys).map fun b => .v (.bool (!b))
    | _ => none
  | x, y => match exact2 x y with
    | some (a, b) => (abinV op a b).map .v
    | none => none

def aunary (op : UnOp) (x : AV) : Option AV := match op, x with
  | .not, .v (.bool b) => some (.v (.bool (!b)))
  | .neg, .v (.int k n) => some (.v (.int k (k.wrap (0 - n))))
  | _, _ => none

def byteCells (s : ByteArray) : List (List AV) := s.data.toList.map fun b => [AV.v (.int .u8 b.toNat)]

def bytesIn : List AV → Option (List UInt8)
  | [] => some []
  | .v (.int .u8 n) :: r => (bytesIn r).map (UInt8.ofNat n.toNat :: ·)
  | _ => none

def aconv (H : Hp) (src dst : TypeId) (x : AV) : Option AV := match P.underlying src, P.underlying dst, x with
  | some (.int _), some (.int k), .v (.int _ n) => some (.v (.int k (k.wrap n)))
  | some .string, some .string, .v (.string s) => some (.v (.string s))
  | some .string, some (.slice el), .v (.string s) => match P.underlying el with
    | some (.int .u8) => some (.lst false (byteCells s))
    | _ => none
  | some (.slice el), some .string, x => match P.underlying el with
    | some (.int .u8) => match x with
      | .v (.slice none _ _) => some (.v (.string ⟨#[]⟩))
      | .lst _ xs => if xs.all (fun c => decide (c.length = 1)) = true then (bytesIn xs.flatten).map fun l => .v (.string ⟨l.toArray⟩) else none
      | .sl b 1 o n => (H.h b).bind fun cs => if o + n ≤ cs.length then (bytesIn ((cs.drop o).take n)).map fun l => .v (.string ⟨l.toArray⟩) else none
      | _ => none
    | _ => none
  | _, _, _ => none

def natOf (x : AV) : Option Nat := match x with
  | .v (.int _ n) => if 0 ≤ n then some n.toNat else none
  | _ => none
/-- A bound of a slice expression: the default, where there is none. -/
def bound (e : Env) (d : Nat) : Option Operand → Option Nat
  | none => some d
  | some x => natOf (opd e x)

def aslice (H : Hp) (e : Env) (t : TypeId) (x : AV) (lo hi mx : Option Operand) : Option AV := match P.underlying t, x with
  | some .string, .v (.string s) => if mx.isSome then none else (bound e 0 lo).bind fun l => (bound e s.size hi).bind fun h =>
    if l ≤ h ∧ h ≤ s.size then some (.v (.string (s.extract l h))) else none
  | some (.slice el), .v (.slice none 0 0) => (szOf P el).bind fun _ => (bound e 0 lo).bind fun l => (bound e 0 hi).bind fun h => (bound e 0 mx).bind fun m =>
    if l = 0 ∧ h = 0 ∧ m = 0 ∧ (mx.isNone || hi.isSome) = true then some (.v (.slice none 0 0)) else none
  | some (.slice el), .lst fu xs => (szOf P el).bind fun sz => (bound e 0 lo).bind fun l => (bound e xs.length hi).bind fun h =>
    if xs.all (fun c => decide (c.length = sz)) = true ∧ l ≤ h ∧ h ≤ xs.length then
    match mx with
    | none => some (.lst (fu && decide (h = xs.length)) ((xs.drop l).take (h - l)))
    | some x => (bound e 0 (some x)).bind fun m => if h ≤ m ∧ m ≤ xs.length ∧ hi.isSome = true then some (.lst (decide (m = h)) ((xs.drop l).take (h - l))) else none
    else none
  | some (.slice el), .sl b sz o n => if szOf P el = some sz ∧ mx.isNone = true ∧ 0 < sz then (H.h b).bind fun cs => (bound e 0 lo).bind fun l => (bound e n hi).bind fun h =>
    if l ≤ h ∧ o + h * sz ≤ cs.length then some (.sl b sz (o + l * sz) (h - l)) else none
    else none
  | some (.array m el), .ptr b o => if mx.isNone then (szOf P el).bind fun sz => (H.h b).bind fun cs => (bound e 0 lo).bind fun l => (bound e m hi).bind fun h =>
    if l ≤ h ∧ h ≤ m ∧ o + m * sz = cs.length ∧ 0 < sz then some (.sl b sz (o + l * sz) (h - l)) else none
    else none
  | _, _ => none

/-- Where a field lies, if it has cells. -/
def fieldOff (s : TypeId) (f : Nat) : Option Nat := (fieldOf? P s f).bind fun fd => (szOf P fd.type).bind fun n => if n = 0 then none else some fd.offset
def afieldAddr (s : TypeId) (x : AV) (f : Nat) : Option AV := (fieldOff P s f).bind fun d => match x with
  | .ptr b o => some (.ptr b (o + d))
  | .fp cs o => some (.fp cs (o + d))
  | _ => none

def aindexAddr (H : Hp) (t : TypeId) (x i : AV) : Option AV := (natOf i).bind fun i => match P.underlying t, x with
  | some (.slice el), .sl b sz o n => if szOf P el = some sz ∧ i < n ∧ (H.h b).isSome then some (.ptr b (o + i * sz)) else none
  | some (.slice el), .lst _ xs => (xs[i]?).bind fun c => if szOf P el = some c.length then some (.fp c 0) else none
  | some (.array m el), .ptr b o => (szOf P el).bind fun sz => if i < m then some (.ptr b (o + i * sz)) else none
  | some (.array m el), .fp cs o => (szOf P el).bind fun sz => if i < m then some (.fp cs (o + i * sz)) else none
  | _, _ => none

def apart (t : TypeId) (cs : List AV) (o : Nat) : Option AV := ldc P t cs o

def aindex (t : TypeId) (x i : AV) : Option AV := (natOf i).bind fun i => match P.underlying t, x with
  | some .string, .v (.string s) => (s.data.toList[i]?).map fun b => .v (.int .u8 b.toNat)
  | some (.array m el), .agg cs => (szOf P el).bind fun sz => if i < m then apart P el cs (i * sz) else none
  | _, _ => none

def fieldTO (t : TypeId) (f : Nat) : Option (TypeId × Nat) := (fieldOf? P t f).map fun fd => (fd.type, fd.offset)
def afield (t : TypeId) (x : AV) (f : Nat) : Option AV := match x with
  | .agg cs => (fieldTO P t f).bind fun (ft, d) => apart P ft cs d
  | _ => none

def aextract (x : AV) (i : Nat) : Option AV := match x with
  | .tup vs => vs[i]?
  | _ => none

def alen (x : AV) : Option Nat := match x with
  | .v (.slice none n _) => some n
  | .v (.slice (some _) n _) => some n
  | .v (.string s) => some s.size
  | .lst _ xs => some xs.length
  | .sl _ _ _ n => some n
  | _ => none

/-- The first n elements of a slice or text, as cells. -/
def afirst (H : Hp) (sz n : Nat) (x : AV) : Option (List AV) := match x with
  | .v (.slice none _ _) => if n = 0 then some [] else none
  | .v (.slice (some _) _ _) => if n = 0 then some [] else none
  | .v (.string s) => if sz = 1 ∧ n ≤ s.size then some ((s.data.toList.take n).map fun b => .v (.int .u8 b.toNat)) else none
  | .lst _ xs => if n ≤ xs.length ∧ (xs.take n).all (fun c => c.length = sz) = true then some ((xs.take n).flatten) else none
  | .sl b sz' o m => if sz' = sz ∧ n ≤ m then (H.h b).bind fun cs => if o + n * sz ≤ cs.length then some ((cs.drop o).take (n * sz)) else none else none
  | _ => none

def isIntD : TypeDesc → Bool | .int _ => true | _ => false
def intT (t : TypeId) : Option Bool := (P.underlying t).map isIntD

/-- What is appended: how many elements, and their cells. -/
def aappended (H : Hp) (el : TypeId) (z : List AV) (xt : TypeId) (y : AV) : Option (Nat × List AV) :=
  (intT P xt).bind fun b => if b then (natOf y).bind fun m => if m ≤ 9223372036854775807 then some (m, zeros m z) else none
  else (alen y).bind fun m => (afirst H z.length m y).map fun cs => (m, cs)

def roomy (n bytes : Nat) : Bool := decide (n * bytes ≤ 70368744177664) && decide (n ≤ 70368744177664)

def aappend (H : Hp) (ts : List TypeId) (x y : AV) : Option (AV × Hp) := match ts with
  | [t, xt] => (elemOf? P t).bind fun el => (zeroOf P el).bind fun z => (bytesOf P el).bind fun bytes => (aappended P H el z xt y).bind fun (m, cs) =>
    if m = 0 then (match x with
      | .v (.slice none 0 0) => some (.v (.slice none 0 0), H)
      | .lst fu xs => some (.lst fu xs, H)
      | .sl b sz o n => if 0 < sz ∧ (H.h b).isSome = true then some (.sl b sz o n, H) else none
      | _ => none)
    else if z.length = 0 then none else match x with
      | .v (.slice none 0 0) => if roomy m bytes then some (.sl H.g z.length 0 m, H.new cs) else none
      | .lst true xs => if xs.all (fun c => c.length = z.length) = true ∧ roomy (xs.length + m) bytes = true then some (.sl H.g z.length 0 (xs.length + m), H.new (xs.flatten ++ cs)) else none
      | .sl b sz o n => if sz = z.length ∧ roomy (n + m) bytes = true then (H.h b).bind fun old =>
          if o + n * sz ≤ old.length then
            if o + (n + m) * sz ≤ old.length then some (.sl b sz o (n + m), H.set b (setAll old (o + n * sz) cs))
            else some (.sl H.g sz 0 (n + m), (H.del b).new ((old.drop o).take (n * sz) ++ cs))
          else none
        else none
      | _ => none
  | _ => none

def amakeSlice (H : Hp) (t : TypeId) (l c : AV) : Option (AV × Hp) :=
  (elemOf? P t).bind fun el => (zeroOf P el).bind fun z => (bytesOf P el).bind fun bytes => (natOf l).bind fun l => (natOf c).bind fun c =>
    if l ≤ c ∧ roomy c bytes = true ∧ 0 < z.length then some (.sl H.g z.length 0 l, H.new (zeros c z)) else none

/-- Calls: policy, function, arguments, heap. -/
abbrev CallF := Nat → Nat → List AV → Hp → Option (AV × Hp)

def builtin0 (b : Builtin) (ts : List TypeId) (as : List AV) : Option AV := match b, as with
  | .len, [x] => match ts with
    | t :: _ => match P.underlying t with
      | some .string => (match x with | .v (.string s) => some (.v (.int .i64 s.size)) | _ => none)
      | some (.slice _) => (match x with
        | .v (.slice none n _) => some (.v (.int .i64 n))
        | .lst _ xs => some (.v (.int .i64 xs.length))
        | .sl _ _ _ n => some (.v (.int .i64 n))
        | _ => none)
      | some (.array n _) => some (.v (.int .i64 n))
      | _ => none
    | _ => none
  | .cap, [x] => match ts with
    | t :: _ => match P.underlying t, x with
      | some (.slice _), .v (.slice none _ c) => some (.v (.int .i64 c))
      | some (.slice _), .lst true xs => some (.v (.int .i64 xs.length))
      | some (.array n _), _ => some (.v (.int .i64 n))
      | _, _ => none
    | _ => none
  | .max, [.v (.int k a), .v (.int k' b)] => if k = k' then some (.v (.int k (if a < b then b else a))) else none
  | .min, [.v (.int k a), .v (.int k' b)] => if k = k' then some (.v (.int k (if b < a then b else a))) else none
  | _, _ => none

/-- An own block's cells of a slice are cleared (elements of one cell). -/
def aclear (H : Hp) (ts : List TypeId) (x : AV) : Option (AV × Hp) := match ts, x with
  | [t], .sl b sz o n => (elemOf? P t).bind fun el => (zeroOf P el).bind fun z => (H.h b).bind fun cs =>
    match z with
    | [y] => if sz = 1 ∧ o + n ≤ cs.length ∧ okc y = true then some (.any, H.set b (setAll cs o (List.replicate n y))) else none
    | _ => none
  | _, _ => none

def builtinOp (H : Hp) (b : Builtin) (ts : List TypeId) (as : List AV) : Option (AV × Hp) := match b with
  | .append => match as with
    | [x, y] => aappend P H ts x y
    | _ => none
  | .clear => match as with
    | [x] => aclear P H ts x
    | _ => none
  | b => (builtin0 P b ts as).map (·, H)

/-- One operation. 'pol': what becomes of a slice literal and of a call's result, by the function and the slot. -/
def aop (pol : Nat → Nat) (cf : CallF) (o : Oper) (e : Env) (H : Hp) : Option (AV × Hp) := match o.op with
  | .move x | .assign x => some (opd e x, H)
  | .pick c a b => (match opd e c with | .v (.bool t) => some (if t then opd e a else opd e b, H) | _ => none)
  | .alloc t => (zeroOf P t).map fun z => (.ptr H.g 0, H.new z)
  | .box t x => (asCells (opd e x)).bind fun cs => if cs.all okc then some (.ptr H.g 0, H.new cs) else none
  | .build t ps => (abuild P t (aparts e ps)).map (·, H)
  | .buildSlice t n ps => (abuildSlice P t n (aparts e ps)).bind fun (cs, sz) =>
      if sz = 0 ∨ !(cs.all okc) then none
      else if pol (o.dst.getD 0) = 1 then some (.sl H.g sz 0 n, H.new cs) else some (.lst true (chunk sz n cs), H)
  | .load t a => (aload P H t (opd e a)).map (·, H)
  | .store t a x => (astore P H t (opd e a) (opd e x)).map (.any, ·)
  | .nilCheck x => (match opd e x with | .ptr b q => some (.ptr b q, H) | .fp c q => some (.fp c q, H) | _ => none)
  | .binOp op t x y _ => if isNilC y = true then (nilQ P op t (opd e x)).map (·, H) else match nilCmp (nilT P t) (opd e x) (opd e y) with
      | some b => (eqOp op).map fun q => (.v (.bool (if q then b else !b)), H)
      | none => (abin P op t (opd e x) (opd e y)).map (·, H)
  | .unOp op _ x => (aunary op (opd e x)).map (·, H)
  | .makeInterface t x => (amkI P t (opd e x)).map (·, H)
  | .convert s d x => (aconv P H s d (opd e x)).map (·, H)
  | .makeFunc (.func f) first cap => if first.size = 0 then some (.fn f (cap.toList.map (opd e)), H) else none
  | .makeSlice t l c => amakeSlice P H t (opd e l) (opd e c)
  | .slice t x lo hi mx => (aslice P H e t (opd e x) lo hi mx).map (·, H)
  | .fieldAddr s x f => (afieldAddr P s (opd e x) f).map (·, H)
  | .field t x f => (afield P t (opd e x) f).map (·, H)
  | .indexAddr t x i => (aindexAddr P H t (opd e x) (opd e i)).map (·, H)
  | .index t x i => (aindex P t (opd e x) (opd e i)).map (·, H)
  | .extract x i => (aextract (opd e x) i).map (·, H)
  | .call c => match c.callee with
      | .value f => (match opd e f with
        | .fn g caps => cf (pol (o.dst.getD 0)) g (c.args.toList.map (opd e) ++ caps) H
        | _ => none)
      | .builtin b => builtinOp P H b c.argTypes.toList (c.args.toList.map (opd e))
      | _ => none
  | _ => none

/-- Is the operation run? None: not known. -/
def awanted (ops : Array Oper) (o : Oper) (e : Env) : Option Bool := match o.guard with
  | none => some true
  | some (j, want) => match (ops[j]?).bind (·.dst) with
    | some t => (match e t with | .v (.bool b) => some (b == want) | .v (.tuple _) => some false | _ => none)
    | none => none

def astep (pol : Nat → Nat) (cf : CallF) (ops : Array Oper) (o : Oper) (e : Env) (H : Hp) : Option (Env × Hp) :=
  (awanted ops o e).bind fun w => if w then (aop P pol cf o e H).map fun r => (put e o.dst r.1, r.2) else some (put e o.dst (.v undef), H)

def asteps (pol : Nat → Nat) (cf : CallF) (ops : Array Oper) : List Oper → Env → Hp → Option (Env × Hp)
  | [], e, H => some (e, H)
  | o :: r, e, H => (astep P pol cf ops o e H).bind fun s => asteps pol cf ops r s.1 s.2

inductive AX where
  | normal
  | exit (id : Nat)
  | ret
  deriving DecidableEq

abbrev St := Env × Hp

def thenN (k : St → Option (AX × St)) : AX × St → Option (AX × St)
  | (.normal, s) => k s
  | (.exit id, s) => some (.exit id, s)
  | (.ret, s) => some (.ret, s)
def outOf (id : Nat) : AX × St → AX × St
  | (.exit id', s) => if id' = id then (.normal, s) else (.exit id', s)
  | (.normal, s) => (.normal, s)
  | (.ret, s) => (.ret, s)
def iter (f : St → Option (AX × St)) : Nat → St → Option (AX × St)
  | 0, _ => none
  | k + 1, s => (f s).bind (thenN (iter f k))

def Op.kind (pol raw1 : Bool) : Op → Nat   -- 0: nothing, 1: reads, 2: writes or makes, 3: makes blocks alone
  | .alloc _ => 3
  | .box .. | .store .. | .makeSlice .. => 2
  | .buildSlice .. => if pol then 2 else 0
  | .load .. | .convert .. | .slice .. | .indexAddr .. => 1
  | .call c => match c.callee with
    | .builtin .len | .builtin .cap | .builtin .max | .builtin .min => 0
    | .builtin _ => 2
    | _ => if raw1 then 2 else if pol then 3 else 1
  | _ => 0
/-- What an operation gives, and the heap behind it. -/
def stepV (pol : Nat → Nat) (cf : CallF) (ops : Array Oper) (o : Oper) (e : Env) (H : Hp) : Option (AV × Hp) :=
  (awanted ops o e).bind fun w => if w then aop P pol cf o e H else some (.v undef, H)
/-- Is it a call of a function? -/
def vcall (o : Oper) : Bool := match o.op with
  | .call c => match c.callee with
    | .value _ => true
    | _ => false
  | _ => false
def readOp (o : Oper) : Bool := match o.op with
  | .call _ => false
  | _ => true
/-- A function with late reads, and a late read: the author's choice by slots. -/
def latF (pol : Nat → Nat) : Bool := pol 1000000 == 2
def lateO (pol : Nat → Nat) (o : Oper) : Bool := latF pol && (pol (o.dst.getD 0) == 2) && readOp o
/-- A free read: it looks at no block that changes. The author's choice by slots (3). -/
def frK : Op → Bool
  | .load .. | .convert .. | .slice .. | .indexAddr .. => true
  | _ => false
def freeO (pol : Nat → Nat) (o : Oper) : Bool := latF pol && (pol (o.dst.getD 0) == 3) && frK o.op
/-- A write that is no function's call. -/
def blkO (pol : Nat → Nat) (o : Oper) : Bool := Op.kind (pol (o.dst.getD 0) == 1) false o.op == 2
/-- Its late reads tell the same behind the calls that follow them, up to the next other write. -/
def LateOk0 (pol : Nat → Nat) (cf : CallF) (ops : Array Oper) (s : St) : Prop :=
  ∀ i o, ops[i]? = some o → lateO pol o = true → ∀ k si sk, i ≤ k → k ≤ ops.size → (∀ j y, i < j → j < k → ops[j]? = some y → blkO pol y = false) →
    asteps P pol cf ops (ops.toList.take i) s.1 s.2 = some si → asteps P pol cf ops (ops.toList.take k) s.1 s.2 = some sk → ∃ v, stepV P pol cf ops o si.1 si.2 = some (v, si.2) ∧ stepV P pol cf ops o si.1 sk.2 = some (v, sk.2)
/-- Its free reads tell the same in all of the region's heaps. -/
def FreeOk (pol : Nat → Nat) (cf : CallF) (ops : Array Oper) (s : St) : Prop :=
  ∀ i o, ops[i]? = some o → freeO pol o = true → ∀ si, asteps P pol cf ops (ops.toList.take i) s.1 s.2 = some si → ∃ v, ∀ k sk, k ≤ ops.size → asteps P pol cf ops (ops.toList.take k) s.1 s.2 = some sk → stepV P pol cf ops o si.1 sk.2 = some (v, sk.2)
def LateOk (pol : Nat → Nat) (cf : CallF) (ops : Array Oper) (s : St) : Prop := LateOk0 P pol cf ops s ∧ FreeOk P pol cf ops s
open Classical in
noncomputable def crun (pol : Nat → Nat) (cf : CallF) (n : Nat) : Code → St → Option (AX × St)
  | .skip, s => some (.normal, s)
  | .region _ ops _, s => if latF pol = true ∧ ¬ LateOk P pol cf ops s then none else (asteps P pol cf ops ops.toList s.1 s.2).map (.normal, ·)
  | .seq a b, s => (crun pol cf n a s).bind (thenN (crun pol cf n b))
  | .cond c a b, s => match opd s.1 c with
    | .v (.bool true) => crun pol cf n a s
    | .v (.bool false) => crun pol cf n b s
    | _ => none
  | .block id c, s => (crun pol cf n c s).map (outOf id)
  | .loop c, s => iter (crun pol cf n c) n s
  | .exit id, s => some (.exit id, s)
  | .ret, s => some (.ret, s)
  | _, _ => none

def aresult (H : Hp) (e : Env) : ResultVar → Option AV
  | .tmp t => some (e t)
  | .cell a t => aload P H t (e a)
def aresults (H : Hp) (e : Env) : List ResultVar → Option (List AV)
  | [] => some []
  | r :: rs => (aresult P H e r).bind fun x => (aresults H e rs).map (x :: ·)
def tupOf : List AV → AV
  | [x] => x
  | xs => .tup xs

def envOf (as : List AV) : Env := fun t => (as[t]?).getD .any

/-- The end of a body. -/
def finish (fn : Func) : AX × St → Option (AV × Hp)
  | (.exit _, _) => none
  | (.normal, s) => (aresults P s.2 s.1 fn.results.toList).map fun vs => (tupOf vs, s.2)
  | (.ret, s) => (aresults P s.2 s.1 fn.results.toList).map fun vs => (tupOf vs, s.2)
def codeOf (fn : Func) : Code := fn.body.getD (.goto 0)
/-- A body with its arguments. -/
noncomputable def brun (pol : Nat → Nat) (cf : CallF) (n : Nat) (fn : Func) (as : List AV) (H : Hp) : Option (AV × Hp) :=
  (crun P pol cf n (codeOf fn) (envOf as, H)).bind (finish P fn)

/-- The value as it is read, deep: own blocks become lists. -/
def deep (H : Hp) : Nat → AV → Option AV
  | 0, _ => none
  | d + 1, x => match x with
    | .v (.slice none 0 0) => some (.lst false [])
    | .v y => some (.v y)
    | .lst _ xs => (xs.mapM fun (c : List AV) => c.mapM (deep H d)).map (.lst false)
    | .sl b sz o n => (H.h b).bind fun cs => if o + n * sz ≤ cs.length ∧ 0 < sz then
        (((cs.drop o).take (n * sz)).mapM (deep H d)).map fun ds => .lst false (chunk sz n ds) else none
    | .ptr b o => (H.h b).bind fun cs => (cs.mapM (deep H d)).map fun ds => .fp ds o
    | .agg cs => (cs.mapM (deep H d)).map .agg
    | .tup cs => (cs.mapM (deep H d)).map .tup
    | .fp cs o => (cs.mapM (deep H d)).map fun ds => .fp ds o
    | .fn f caps => (caps.mapM (deep H d)).map (.fn f)
    | .ifc b => some (.ifc b)
    | .any => none

/-- Does all that is read lie in own blocks? -/
def clean (H : Hp) : Nat → AV → Bool
  | 0, _ => false
  | d + 1, x => match x with
    | .v _ | .ifc _ => true
    | .lst _ xs => xs.isEmpty
    | .sl b sz o n => ((((H.h b).getD []).drop o).take (n * sz)).all (clean H d)
    | .agg cs | .tup cs => cs.all (clean H d)
    | _ => false

/-- Does the value name own blocks? -/
def hasRefs : Nat → AV → Bool
  | 0, _ => true
  | d + 1, x => match x with
    | .sl .. | .ptr .. => true
    | .agg cs | .tup cs | .fn _ cs | .fp cs _ => cs.any (hasRefs d)
    | .lst _ xs => xs.any fun (c : List AV) => c.any (hasRefs d)
    | _ => false

def depthD : Nat := 12

/-- In which own blocks a value lies, all of it; none: not all of it lies in such. -/
def fpt (H : Hp) : Nat → AV → Option (List Nat)
  | 0, _ => none
  | d + 1, x => match x with
    | .v _ => some []
    | .lst _ [] => some []
    | .sl b sz o n => if n = 0 then some [] else (H.h b).bind fun cs => (((cs.drop o).take (n * sz)).mapM (fpt H d)).map fun l => b :: l.flatten
    | .agg cs | .tup cs => (cs.mapM (fpt H d)).map List.flatten
    | _ => none

def matL (m : AV → Hp → Option (AV × Hp)) : List AV → Hp → Option (List AV × Hp)
  | [], H => some ([], H)
  | x :: r, H => (m x H).bind fun a => (matL m r a.2).map fun q => (a.1 :: q.1, q.2)
/-- A deep value into own blocks of a heap. -/
def mat : Nat → AV → Hp → Option (AV × Hp)
  | 0, _, _ => none
  | d + 1, x, H => match x with
    | .v y => some (.v y, H)
    | .lst _ [] => some (.lst false [], H)
    | .lst _ (r :: rs) => if 0 < r.length ∧ rs.all (fun c => decide (c.length = r.length)) = true then
        (matL (mat d) (r :: rs).flatten H).map fun q => (.sl q.2.g r.length 0 (rs.length + 1), q.2.new q.1) else none
    | .agg cs => (matL (mat d) cs H).map fun q => (.agg q.1, q.2)
    | .tup cs => (matL (mat d) cs H).map fun q => (.tup q.1, q.2)
    | _ => none

def Code.dstsOk (n : Nat) : Code → Bool
  | .region _ ops _ => ops.toList.all fun o => match o.dst with | some d => decide (d < n) | none => true
  | .seq a b => Code.dstsOk n a && Code.dstsOk n b
  | .cond _ a b => Code.dstsOk n a && Code.dstsOk n b
  | .block _ c => Code.dstsOk n c
  | .loop c => Code.dstsOk n c
  | .skip | .exit _ | .ret => true
  | _ => false

end

/-- What the author of a proof chooses: what becomes of a result, by function and slot (1: it is an own block), and which functions work on their caller's blocks. -/
structure Cfg where
  pol : Nat → Nat → Nat
  raw : Nat → Bool
  /-- Functions whose laws come from elsewhere: the result, and whether all of it lies in blocks of its own. -/
  prim : Nat → Option (List AV → Option (AV × Bool)) := fun _ => none
  /-- Of those that work on their caller's blocks: the result is read deep, and what was made is only read from then on. -/
  frz : Nat → Bool := fun _ => false
  /-- Of those whose laws come from elsewhere: the result lies in own blocks, each once. -/
  own : Nat → Bool := fun _ => false

section
variable (P : Program)
/-- The conflicts of a region's operations: which touch the heap, and how. -/
def opTmps (o : Op) : List Nat := o.operands.toList.filterMap fun | .tmp t => some t | _ => none
def looks (ops : Array Oper) (o : Oper) : List Nat := opTmps o.op ++ (match o.guard with
  | some (g, _) => ((ops[g]?).bind (·.dst)).toList
  | none => [])
def calleeRaw (raw : Nat → Bool) : Op → Bool
  | .call c => match c.callee with
    | .value (.func f) => raw f
    | .value _ => true
    | _ => false
  | _ => false
def opKind (cfg : Cfg) (fid : Nat) (o : Oper) : Nat := Op.kind (cfg.pol fid (o.dst.getD 0) == 1) (calleeRaw cfg.raw o.op) o.op
def opKindF (cfg : Cfg) (fid : Nat) (o : Oper) : Nat := if freeO (cfg.pol fid) o = true then 0 else opKind cfg fid o
def conflict (cfg : Cfg) (fid : Nat) (ops : Array Oper) (x y : Oper) : Bool :=
  (match x.dst with | some d => (looks ops y).contains d || y.dst == some d | none => false) ||
  (match y.dst with | some d => (looks ops x).contains d | none => false) ||
  (decide (2 ≤ opKindF cfg fid x) && opKindF cfg fid y != 0) || (opKindF cfg fid y == 2 && opKindF cfg fid x != 0 && !(lateO (cfg.pol fid) x && vcall y))

/-- What is ahead of operation i, by the edges that bind, as a bit set: for edges that go back. -/
def binding (md : Region.Mode) (o : Oper) : List Nat := (o.after.toList.filter fun e => Region.binds md e).map (·.on)
/-- What is ahead of an operation, as a set of bits: the direct ones, and what is ahead of these. -/
def maskIn (acc : List Nat) : List Nat → Nat
  | [] => 0
  | k :: r => ((1 <<< k) ||| acc.getD k 0) ||| maskIn acc r
def masksFrom : List (List Nat) → List Nat → List Nat
  | [], acc => acc
  | d :: r, acc => masksFrom r (acc ++ [maskIn acc d])
def maskL : List Nat → Nat
  | [] => 0
  | k :: r => (1 <<< k) ||| maskL r
def preOf (cfg : Cfg) (fid : Nat) (ops : Array Oper) (o : Oper) : Nat × Option Nat × Nat × Bool × Bool := (maskL (looks ops o), o.dst, opKindF cfg fid o, lateO (cfg.pol fid) o, vcall o)
def confP (x y : Nat × Option Nat × Nat × Bool × Bool) : Bool :=
  (match x.2.1 with | some d => y.1.testBit d || y.2.1 == some d | none => false) ||
  (match y.2.1 with | some d => x.1.testBit d | none => false) ||
  (decide (2 ≤ x.2.2.1) && y.2.2.1 != 0) || (y.2.2.1 == 2 && x.2.2.1 != 0 && !(x.2.2.2.1 && y.2.2.2.2))
/-- Is there an order in which all operations can be taken? 'ord' is one. -/
def topo (md : Region.Mode) (ops : Array Oper) (ord : List Nat) : Bool :=
  ord.length == ops.size && (List.range ops.size).all (fun i => ord.contains i) &&
  ord.zipIdx.all fun (i, p) => match ops[i]? with
    | some o => (binding md o).all fun j => (ord.take p).contains j
    | none => false
def modeOk (cfg : Cfg) (fid : Nat) (ops : Array Oper) (md : Region.Mode) : Bool :=
  (topo md ops (List.range ops.size) || topo md ops (Region.linearise md ops 0)) &&
  (let ah := masksFrom (ops.toList.map (binding md)) []
   let ps := ops.toList.map (preOf cfg fid ops)
   ps.zipIdx.all fun (y, j) => let m := ah.getD j 0; (ps.take j).zipIdx.all fun (x, i) => !(confP x y) || m.testBit i)
def modesOf (ops : Array Oper) : List Region.Mode := if P.follows .mixedOrders || !Region.departs ops then [.any] else [.text, .gc]
def Code.drawsOk (cfg : Cfg) (fid : Nat) : Code → Bool
  | .region _ ops d => !d || (modesOf P ops).all (modeOk cfg fid ops)
  | .seq a b => Code.drawsOk cfg fid a && Code.drawsOk cfg fid b
  | .cond _ a b => Code.drawsOk cfg fid a && Code.drawsOk cfg fid b
  | .block _ c => Code.drawsOk cfg fid c
  | .loop c => Code.drawsOk cfg fid c
  | _ => true

def fnHas (fn : Func) : Bool := fn.body.isSome && decide (fn.name ≠ "runtime.NumGoroutine")
def fnOk (cfg : Cfg) (fid : Nat) (fn : Func) : Bool := match fn.body with
  | some c => Code.dstsOk fn.ntmps c && Code.drawsOk P cfg fid c && decide (fn.name ≠ "runtime.NumGoroutine")
  | none => false

variable (cfg : Cfg)

/-- What a call of a function on values that are only read gives: the value, and whether all of it lies in blocks of its own. -/
noncomputable def pureN (cf : CallF) (n : Nat) (f : Nat) (fn : Func) (ts : List AV) : Option (AV × Bool) :=
  (brun P (cfg.pol f) cf n fn ts Hp.nil).bind fun r => (deep r.2 depthD r.1).map fun t => (t, clean r.2 depthD r.1)

/-- What such a call gives, where all of it lies in own blocks, each once. -/
noncomputable def ownN (cf : CallF) (n : Nat) (f : Nat) (fn : Func) (ts : List AV) : Option AV :=
  (brun P (cfg.pol f) cf n fn ts Hp.nil).bind fun r => (fpt r.2 depthD r.1).bind fun fp => if fp.Nodup then deep r.2 depthD r.1 else none

def pureAt (H : Hp) (borrowed : Bool) (r : AV × Bool) : Option (AV × Hp) := if r.2 || !borrowed then some (r.1, H) else none

/-- The blocks made since. -/
def newOf (H H' : Hp) : Hp := ⟨fun b => if b < H.g then none else H'.h b, H'.g⟩
open Classical in
noncomputable def frzN (fz : Bool) (H : Hp) (r : AV × Hp) : Option (AV × Hp) :=
  if fz = true then if (∀ b, b < H.g → r.2.h b = H.h b) then (deep (newOf H r.2) depthD r.1).map fun t => (t, ⟨H.h, r.2.g⟩) else none
  else some r

noncomputable def callN : Nat → CallF
  | 0 => fun _ _ _ _ => none
  | n + 1 => fun p f as H => (P.funcs[f]?).bind fun fn => match cfg.prim f with
    | some g => if fnHas fn = true ∧ cfg.raw f = false then (as.mapM (deep H depthD)).bind fun ts => (g ts).bind fun r => if p = 1 then (if cfg.own f = true then mat depthD r.1 H else none) else pureAt H (as.any (hasRefs depthD)) r else none
    | none => if fnOk P cfg f fn = true then
      if cfg.raw f then (brun P (cfg.pol f) (callN n) n fn as H).bind (frzN (cfg.frz f) H)
      else (as.mapM (deep H depthD)).bind fun ts => if p = 1 then (ownN P cfg (callN n) n f fn ts).bind fun t => mat depthD t H else (pureN P cfg (callN n) n f fn ts).bind (pureAt H (as.any (hasRefs depthD)))
    else none
end
end Go.Proofs.YtnejoidfbgklbaaGreatDoor.Eng
