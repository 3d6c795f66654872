/-
  No cell of these rows narrows 'for every input' (looked for: loops, veiled, ifaces, maps, wideKeys, modest, calm, conditions, laid).
  DERIVED. THE GIVEN ROWS OF THIS SEAT. 5 by the template 'for every input the law returns true; each argument reads behind the call as it read before'; 0 by the template 'total and deterministic' (their statements: YtbjcffiaapobpaaTotals.lean).
  GIVEN WITH THE SEED: the statements are not yours to turn. If you find one false, say at which input.
  Laid BY PROGRAM, IN A SANDBOX (cutbox-rows.mjs): the forced cells as the released guide's own fill.sh prints them over the translation a2bfb1805ad3162a… (all of the seat's roots in one cut). By AI agents, Wed Nov 11 2026. No macro, syntax, notation, axiom, sorry.
-/
import Derived.Test.YtbjcffiaapobpaaChecked
import GoSem.Claim
import GoSem.ClaimJoined
import GoSem.ClaimMapViews
import Derived.JoinedTies
import Derived.KernelRfl
namespace Go.Proofs.Ytbjcffiaapobpaa
/- THE CELL 'sum', in the pinned program and in every row, IS THE sha256 OF THE DUMP (.gsa) THAT YtbjcffiaapobpaaProg.lean LOADS. Nothing in Lean hashes anything: it is a label: what it is worth is what the hold of that sum in a sandbox is worth. -/
noncomputable def Try.pinned : Pinned := { name := "ytbjcffiaapobpaa", sum := "a2bfb1805ad3162a107f9e8497796522b0ac6704e675281e4df0ee049438e15c", checked := Try.checked }
namespace Rows
def none {H : Type} : Left H := { results := [], args := [] }

/-- 'laws.FnExactHexText': WHATEVER THE INPUT: true; the input reads as it did. -/
def fnExactHexTextSpec : ChangeSpec := { name := "fnExactHexText", fn := fun _ => fun
  | [d] => { results := [.lit (.bool true)], args := [d] }
  | _ => none }
def fnExactHexTextRow : OpenClaim := { program := "ytbjcffiaapobpaa", sum := "a2bfb1805ad3162a107f9e8497796522b0ac6704e675281e4df0ee049438e15c", func := "loop.example/g00725/laws.FnExactHexText", spec := "fnExactHexText", apart := false }
def FnExactHexTextSaid : Prop := fnExactHexTextRow.holds Try.pinned (OpenSpec.ofChange fnExactHexTextSpec)

/-- ITS FALSE NEIGHBOUR: 'it returns false'. Refute it at one input. -/
def fnExactHexTextWrong : ChangeSpec := { name := "fnExactHexText", fn := fun _ => fun
  | [d] => { results := [.lit (.bool false)], args := [d] }
  | _ => none }
def FnExactHexTextWrongFalsely : Prop := fnExactHexTextRow.holds Try.pinned (OpenSpec.ofChange fnExactHexTextWrong)

/-- 'laws.FnExactIsHonest': WHATEVER THE INPUT: true; the input reads as it did. -/
def fnExactIsHonestSpec : ChangeSpec := { name := "fnExactIsHonest", fn := fun _ => fun
  | [d] => { results := [.lit (.bool true)], args := [d] }
  | _ => none }
def fnExactIsHonestRow : OpenClaim := { program := "ytbjcffiaapobpaa", sum := "a2bfb1805ad3162a107f9e8497796522b0ac6704e675281e4df0ee049438e15c", func := "loop.example/g00725/laws.FnExactIsHonest", spec := "fnExactIsHonest", unfollowed := true, recurses := true, apart := false }
def FnExactIsHonestSaid : Prop := fnExactIsHonestRow.holds Try.pinned (OpenSpec.ofChange fnExactIsHonestSpec)

/-- ITS FALSE NEIGHBOUR: 'it returns false'. Refute it at one input. -/
def fnExactIsHonestWrong : ChangeSpec := { name := "fnExactIsHonest", fn := fun _ => fun
  | [d] => { results := [.lit (.bool false)], args := [d] }
  | _ => none }
def FnExactIsHonestWrongFalsely : Prop := fnExactIsHonestRow.holds Try.pinned (OpenSpec.ofChange fnExactIsHonestWrong)

/-- 'laws.FnExactConfigFault': WHATEVER THE INPUT: true; the input reads as it did. -/
def fnExactConfigFaultSpec : ChangeSpec := { name := "fnExactConfigFault", fn := fun _ => fun
  | [d] => { results := [.lit (.bool true)], args := [d] }
  | _ => none }
def fnExactConfigFaultRow : OpenClaim := { program := "ytbjcffiaapobpaa", sum := "a2bfb1805ad3162a107f9e8497796522b0ac6704e675281e4df0ee049438e15c", func := "loop.example/g00725/laws.FnExactConfigFault", spec := "fnExactConfigFault", unfollowed := true, recurses := true, apart := false }
def FnExactConfigFaultSaid : Prop := fnExactConfigFaultRow.holds Try.pinned (OpenSpec.ofChange fnExactConfigFaultSpec)

/-- ITS FALSE NEIGHBOUR: 'it returns false'. Refute it at one input. -/
def fnExactConfigFaultWrong : ChangeSpec := { name := "fnExactConfigFault", fn := fun _ => fun
  | [d] => { results := [.lit (.bool false)], args := [d] }
  | _ => none }
def FnExactConfigFaultWrongFalsely : Prop := fnExactConfigFaultRow.holds Try.pinned (OpenSpec.ofChange fnExactConfigFaultWrong)

/-- 'laws.FnExactEventFault': WHATEVER THE INPUT: true; the input reads as it did. -/
def fnExactEventFaultSpec : ChangeSpec := { name := "fnExactEventFault", fn := fun _ => fun
  | [d] => { results := [.lit (.bool true)], args := [d] }
  | _ => none }
def fnExactEventFaultRow : OpenClaim := { program := "ytbjcffiaapobpaa", sum := "a2bfb1805ad3162a107f9e8497796522b0ac6704e675281e4df0ee049438e15c", func := "loop.example/g00725/laws.FnExactEventFault", spec := "fnExactEventFault", inPlace := ["internal/bytealg.IndexByte"], unfollowed := true, recurses := true, apart := false }
def FnExactEventFaultSaid : Prop := fnExactEventFaultRow.holds Try.pinned (OpenSpec.ofChange fnExactEventFaultSpec)

/-- ITS FALSE NEIGHBOUR: 'it returns false'. Refute it at one input. -/
def fnExactEventFaultWrong : ChangeSpec := { name := "fnExactEventFault", fn := fun _ => fun
  | [d] => { results := [.lit (.bool false)], args := [d] }
  | _ => none }
def FnExactEventFaultWrongFalsely : Prop := fnExactEventFaultRow.holds Try.pinned (OpenSpec.ofChange fnExactEventFaultWrong)

/-- 'laws.FnExactDecodeMessages': WHATEVER THE INPUT: true; the input reads as it did. -/
def fnExactDecodeMessagesSpec : ChangeSpec := { name := "fnExactDecodeMessages", fn := fun _ => fun
  | [d] => { results := [.lit (.bool true)], args := [d] }
  | _ => none }
def fnExactDecodeMessagesRow : OpenClaim := { program := "ytbjcffiaapobpaa", sum := "a2bfb1805ad3162a107f9e8497796522b0ac6704e675281e4df0ee049438e15c", func := "loop.example/g00725/laws.FnExactDecodeMessages", spec := "fnExactDecodeMessages", apart := false }
def FnExactDecodeMessagesSaid : Prop := fnExactDecodeMessagesRow.holds Try.pinned (OpenSpec.ofChange fnExactDecodeMessagesSpec)

/-- ITS FALSE NEIGHBOUR: 'it returns false'. Refute it at one input. -/
def fnExactDecodeMessagesWrong : ChangeSpec := { name := "fnExactDecodeMessages", fn := fun _ => fun
  | [d] => { results := [.lit (.bool false)], args := [d] }
  | _ => none }
def FnExactDecodeMessagesWrongFalsely : Prop := fnExactDecodeMessagesRow.holds Try.pinned (OpenSpec.ofChange fnExactDecodeMessagesWrong)

/- THE SECOND FORM. 'bulk': how many values and letters a reading holds, each counted each time it is reached (what is shared counts as often as it is met; a slice's spare places count too). A statement '..UptoSaid' is the law's where the arguments, and the package variables that the reading takes, are together of bulk at most 1048576: NARROWER than '..Said'. Prove '..Said' where nothing that the law and all that it calls make is longer than what came in: it says more and counts as full. Else prove '..UptoSaid'. A law counts once. -/
mutual
def uptoBulk {H : Type} : DataW H → Nat
  | .lit (.string bytes) => bytes.length + 1
  | .lit _ => 1
  | .nil => 1
  | .ptr d => uptoBulk d + 1
  | .slice elems spare => uptoBulkAll elems + uptoBulkAll spare + 1
  | .agg parts => uptoBulkAll parts + 1
  | .iface _ d => uptoBulk d + 1
  | .map entries => uptoBulkEntries entries + 1
  | .held _ => 1
def uptoBulkAll {H : Type} : List (DataW H) → Nat
  | [] => 0
  | d :: r => uptoBulk d + uptoBulkAll r
def uptoBulkEntries {H : Type} : List (Lit × DataW H) → Nat
  | [] => 0
  | x :: r => uptoBulkEntry x + uptoBulkEntries r
def uptoBulkEntry {H : Type} : Lit × DataW H → Nat
  | (.string bytes, d) => bytes.length + uptoBulk d + 1
  | (_, d) => uptoBulk d + 1
 end
def uptoSmall : (H : Type) → List (DataW H) → Bool := fun _ ds => decide (uptoBulkAll ds ≤ 1048576)
def OpenSpec.upto (s : _root_.Go.ChangeSpec) : _root_.Go.OpenSpec := { _root_.Go.OpenSpec.ofChange s with cond := some uptoSmall }

/-- 'laws.FnExactHexText', WHERE WHAT IT READS IS OF BULK AT MOST 1048576: true; the input reads as it did. -/
def fnExactHexTextUptoRow : OpenClaim := { program := "ytbjcffiaapobpaa", sum := "a2bfb1805ad3162a107f9e8497796522b0ac6704e675281e4df0ee049438e15c", func := "loop.example/g00725/laws.FnExactHexText", spec := "fnExactHexText", apart := false, narrowed := true }
def FnExactHexTextUptoSaid : Prop := fnExactHexTextUptoRow.holds Try.pinned (OpenSpec.upto fnExactHexTextSpec)

/-- 'laws.FnExactIsHonest', WHERE WHAT IT READS IS OF BULK AT MOST 1048576: true; the input reads as it did. -/
def fnExactIsHonestUptoRow : OpenClaim := { program := "ytbjcffiaapobpaa", sum := "a2bfb1805ad3162a107f9e8497796522b0ac6704e675281e4df0ee049438e15c", func := "loop.example/g00725/laws.FnExactIsHonest", spec := "fnExactIsHonest", unfollowed := true, recurses := true, apart := false, narrowed := true }
def FnExactIsHonestUptoSaid : Prop := fnExactIsHonestUptoRow.holds Try.pinned (OpenSpec.upto fnExactIsHonestSpec)

/-- 'laws.FnExactConfigFault', WHERE WHAT IT READS IS OF BULK AT MOST 1048576: true; the input reads as it did. -/
def fnExactConfigFaultUptoRow : OpenClaim := { program := "ytbjcffiaapobpaa", sum := "a2bfb1805ad3162a107f9e8497796522b0ac6704e675281e4df0ee049438e15c", func := "loop.example/g00725/laws.FnExactConfigFault", spec := "fnExactConfigFault", unfollowed := true, recurses := true, apart := false, narrowed := true }
def FnExactConfigFaultUptoSaid : Prop := fnExactConfigFaultUptoRow.holds Try.pinned (OpenSpec.upto fnExactConfigFaultSpec)

/-- 'laws.FnExactEventFault', WHERE WHAT IT READS IS OF BULK AT MOST 1048576: true; the input reads as it did. -/
def fnExactEventFaultUptoRow : OpenClaim := { program := "ytbjcffiaapobpaa", sum := "a2bfb1805ad3162a107f9e8497796522b0ac6704e675281e4df0ee049438e15c", func := "loop.example/g00725/laws.FnExactEventFault", spec := "fnExactEventFault", inPlace := ["internal/bytealg.IndexByte"], unfollowed := true, recurses := true, apart := false, narrowed := true }
def FnExactEventFaultUptoSaid : Prop := fnExactEventFaultUptoRow.holds Try.pinned (OpenSpec.upto fnExactEventFaultSpec)

/-- 'laws.FnExactDecodeMessages', WHERE WHAT IT READS IS OF BULK AT MOST 1048576: true; the input reads as it did. -/
def fnExactDecodeMessagesUptoRow : OpenClaim := { program := "ytbjcffiaapobpaa", sum := "a2bfb1805ad3162a107f9e8497796522b0ac6704e675281e4df0ee049438e15c", func := "loop.example/g00725/laws.FnExactDecodeMessages", spec := "fnExactDecodeMessages", apart := false, narrowed := true }
def FnExactDecodeMessagesUptoSaid : Prop := fnExactDecodeMessagesUptoRow.holds Try.pinned (OpenSpec.upto fnExactDecodeMessagesSpec)

end Rows
end Go.Proofs.Ytbjcffiaapobpaa
