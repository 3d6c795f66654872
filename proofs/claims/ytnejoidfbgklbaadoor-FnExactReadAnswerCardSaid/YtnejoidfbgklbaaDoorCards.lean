/-
  DERIVED. GIVEN WITH THE SEED: THE CARDS: each row of YtnejoidfbgklbaaDoorRows.lean that lists a variable, with what it lists TIED to the program's text (the seventh form; the later family's looks); each row that meets fmt, with fmt's text TOLD by the authors' own Lean function (tested against real Go, not proved from fmt's source: count such statements apart). THE CARD IS WHAT COUNTS. Prove the row's statement (the work); the ties are given (YtnejoidfbgklbaaDoorTie.lean); close each card by the builder's one call (the guide's Derived/Test/ToyasCard.lean, 'card_holds'). Laid BY PROGRAM, IN A SANDBOX (cutbox-door.mjs). By AI agents, Wed Nov 11 2026. No macro, syntax, notation, axiom, sorry.
-/
import Derived.Test.YtnejoidfbgklbaaDoorRows
import GoSem.ClaimSeven
namespace Go.Proofs.YtnejoidfbgklbaaDoor
namespace Rows

/-- THE TIED CARD OF 'laws.FnExactReadAnswer'. -/
def fnExactReadAnswerCard : Claim7 := { stood := { row := fnExactReadAnswerRow, standIns := [], harness := (true, "1e6a01b486a5522809201ec3c590e9b719634c19e8a1d736ba64dc30a1557a98"), looks := true }, kinds := [], alts := [], laidByText := true, laidKinds := [.data, .data, .data, .sentinel, .sentinel], laidTests := true, laidLooks := .later }
def FnExactReadAnswerCardSaid : Prop := Claim7.holds Tryd.pinned (.plain (OpenSpec.ofChange fnExactReadAnswerSpec)) fnExactReadAnswerCard

/-- THE TIED CARD OF 'laws.FnExactAnswerQuery'. -/
def fnExactAnswerQueryCard : Claim7 := { stood := { row := fnExactAnswerQueryRow, standIns := [], harness := (true, "1e6a01b486a5522809201ec3c590e9b719634c19e8a1d736ba64dc30a1557a98"), looks := true }, kinds := [], alts := [], laidByText := true, laidKinds := [.data, .data, .data, .sentinel, .sentinel], laidTests := true, laidLooks := .later }
def FnExactAnswerQueryCardSaid : Prop := Claim7.holds Tryd.pinned (.plain (OpenSpec.ofChange fnExactAnswerQuerySpec)) fnExactAnswerQueryCard

/-- THE SECOND FORM's CARD OF 'laws.FnExactReadAnswer'. -/
def fnExactReadAnswerUptoCard : Claim7 := { stood := { row := fnExactReadAnswerUptoRow, standIns := [], harness := (true, "1e6a01b486a5522809201ec3c590e9b719634c19e8a1d736ba64dc30a1557a98"), looks := true }, kinds := [], alts := [], laidByText := true, laidKinds := [.data, .data, .data, .sentinel, .sentinel], laidTests := true, laidLooks := .later }
def FnExactReadAnswerUptoCardSaid : Prop := Claim7.holds Tryd.pinned (.plain (OpenSpec.upto fnExactReadAnswerSpec)) fnExactReadAnswerUptoCard

/-- THE SECOND FORM's CARD OF 'laws.FnExactAnswerQuery'. -/
def fnExactAnswerQueryUptoCard : Claim7 := { stood := { row := fnExactAnswerQueryUptoRow, standIns := [], harness := (true, "1e6a01b486a5522809201ec3c590e9b719634c19e8a1d736ba64dc30a1557a98"), looks := true }, kinds := [], alts := [], laidByText := true, laidKinds := [.data, .data, .data, .sentinel, .sentinel], laidTests := true, laidLooks := .later }
def FnExactAnswerQueryUptoCardSaid : Prop := Claim7.holds Tryd.pinned (.plain (OpenSpec.upto fnExactAnswerQuerySpec)) fnExactAnswerQueryUptoCard
end Rows
end Go.Proofs.YtnejoidfbgklbaaDoor
