/-
  No cell of these rows narrows 'for every input' (looked for: loops, veiled, ifaces, maps, wideKeys, modest, calm, conditions, laid).
  DERIVED. THE GIVEN ROWS OF THIS SEAT. 2 by the template 'for every input the law returns true; each argument reads behind the call as it read before'; 0 by the template 'total and deterministic' (their statements: YtmpkcilehideiaaTotals.lean).
  GIVEN WITH THE SEED: the statements are not yours to turn. If you find one false, say at which input.
  Laid BY PROGRAM, IN A SANDBOX (cutbox-rows.mjs): the forced cells as the released guide's own fill.sh prints them over the translation f9a6db7314341220… (all of the seat's roots in one cut). By AI agents, Wed Nov 11 2026. No macro, syntax, notation, axiom, sorry.
-/
import Derived.Test.YtmpkcilehideiaaChecked
import GoSem.Claim
import GoSem.ClaimJoined
import GoSem.ClaimMapViews
import Derived.JoinedTies
import Derived.KernelRfl
namespace Go.Proofs.Ytmpkcilehideiaa
/- THE CELL 'sum', in the pinned program and in every row, IS THE sha256 OF THE DUMP (.gsa) THAT YtmpkcilehideiaaProg.lean LOADS. Nothing in Lean hashes anything: it is a label: what it is worth is what the hold of that sum in a sandbox is worth. -/
noncomputable def Try.pinned : Pinned := { name := "ytmpkcilehideiaa", sum := "f9a6db7314341220e7c1d2b8748bcf9e2ca26c7e004a03884aed1016d784cede", checked := Try.checked }
namespace Rows
def none {H : Type} : Left H := { results := [], args := [] }

/-- 'laws.FnExactDecodeMessages': WHATEVER THE INPUT: true; the input reads as it did. -/
def fnExactDecodeMessagesSpec : ChangeSpec := { name := "fnExactDecodeMessages", fn := fun _ => fun
  | [d] => { results := [.lit (.bool true)], args := [d] }
  | _ => none }
def fnExactDecodeMessagesRow : OpenClaim := { program := "ytmpkcilehideiaa", sum := "f9a6db7314341220e7c1d2b8748bcf9e2ca26c7e004a03884aed1016d784cede", func := "loop.example/g00725/laws.FnExactDecodeMessages", spec := "fnExactDecodeMessages", apart := false }
def FnExactDecodeMessagesSaid : Prop := fnExactDecodeMessagesRow.holds Try.pinned (OpenSpec.ofChange fnExactDecodeMessagesSpec)

/-- ITS FALSE NEIGHBOUR: 'it returns false'. Refute it at one input. -/
def fnExactDecodeMessagesWrong : ChangeSpec := { name := "fnExactDecodeMessages", fn := fun _ => fun
  | [d] => { results := [.lit (.bool false)], args := [d] }
  | _ => none }
def FnExactDecodeMessagesWrongFalsely : Prop := fnExactDecodeMessagesRow.holds Try.pinned (OpenSpec.ofChange fnExactDecodeMessagesWrong)

/-- 'laws.FnMessages': WHATEVER THE INPUT: true; the input reads as it did. -/
def fnMessagesSpec : ChangeSpec := { name := "fnMessages", fn := fun _ => fun
  | [d] => { results := [.lit (.bool true)], args := [d] }
  | _ => none }
def fnMessagesRow : OpenClaim := { program := "ytmpkcilehideiaa", sum := "f9a6db7314341220e7c1d2b8748bcf9e2ca26c7e004a03884aed1016d784cede", func := "loop.example/g00725/laws.FnMessages", spec := "fnMessages", unfollowed := true, recurses := true, apart := false }
def FnMessagesSaid : Prop := fnMessagesRow.holds Try.pinned (OpenSpec.ofChange fnMessagesSpec)

/-- ITS FALSE NEIGHBOUR: 'it returns false'. Refute it at one input. -/
def fnMessagesWrong : ChangeSpec := { name := "fnMessages", fn := fun _ => fun
  | [d] => { results := [.lit (.bool false)], args := [d] }
  | _ => none }
def FnMessagesWrongFalsely : Prop := fnMessagesRow.holds Try.pinned (OpenSpec.ofChange fnMessagesWrong)

/- THE SECOND FORM. 'bulk': how many values and letters a reading holds, each counted each time it is reached (what is shared counts as often as it is met; a slice's spare places count too). A statement '..UptoSaid' is the law's where the arguments, and the package variables that the reading takes, are together of bulk at most 1048576: NARROWER than '..Said'. Prove '..Said' where nothing that the law and all that it calls make is longer than what came in: it says more and counts as full. Else prove '..UptoSaid'. A law counts once. -/
mutual
def uptoBulk {H : Type} : DataW H → Nat
  | .lit (.string bytes) => bytes.length + 1
  | .lit _ => 1
  | .nil => 1
  | .ptr d => uptoBulk d + 1
  | .slice elems spare => uptoBulkAll elems + uptoBulkAll spare + 1
  | .agg parts => uptoBulkAll parts + 1
  | .iface _ d => uptoBulk d + 1
  | .map entries => uptoBulkEntries entries + 1
  | .held _ => 1
def uptoBulkAll {H : Type} : List (DataW H) → Nat
  | [] => 0
  | d :: r => uptoBulk d + uptoBulkAll r
def uptoBulkEntries {H : Type} : List (Lit × DataW H) → Nat
  | [] => 0
  | x :: r => uptoBulkEntry x + uptoBulkEntries r
def uptoBulkEntry {H : Type} : Lit × DataW H → Nat
  | (.string bytes, d) => bytes.length + uptoBulk d + 1
  | (_, d) => uptoBulk d + 1
 end
def uptoSmall : (H : Type) → List (DataW H) → Bool := fun _ ds => decide (uptoBulkAll ds ≤ 1048576)
def OpenSpec.upto (s : _root_.Go.ChangeSpec) : _root_.Go.OpenSpec := { _root_.Go.OpenSpec.ofChange s with cond := some uptoSmall }

/-- 'laws.FnExactDecodeMessages', WHERE WHAT IT READS IS OF BULK AT MOST 1048576: true; the input reads as it did. -/
def fnExactDecodeMessagesUptoRow : OpenClaim := { program := "ytmpkcilehideiaa", sum := "f9a6db7314341220e7c1d2b8748bcf9e2ca26c7e004a03884aed1016d784cede", func := "loop.example/g00725/laws.FnExactDecodeMessages", spec := "fnExactDecodeMessages", apart := false, narrowed := true }
def FnExactDecodeMessagesUptoSaid : Prop := fnExactDecodeMessagesUptoRow.holds Try.pinned (OpenSpec.upto fnExactDecodeMessagesSpec)

/-- 'laws.FnMessages', WHERE WHAT IT READS IS OF BULK AT MOST 1048576: true; the input reads as it did. -/
def fnMessagesUptoRow : OpenClaim := { program := "ytmpkcilehideiaa", sum := "f9a6db7314341220e7c1d2b8748bcf9e2ca26c7e004a03884aed1016d784cede", func := "loop.example/g00725/laws.FnMessages", spec := "fnMessages", unfollowed := true, recurses := true, apart := false, narrowed := true }
def FnMessagesUptoSaid : Prop := fnMessagesUptoRow.holds Try.pinned (OpenSpec.upto fnMessagesSpec)

end Rows
end Go.Proofs.Ytmpkcilehideiaa
