/-
  DERIVED. GIVEN WITH THE SEED: THE CARDS: each row of YtepnlhjafgomgaaDoorRows.lean that lists a variable, with what it lists TIED to the program's text (the seventh form; the later family's looks); each row that meets fmt, with fmt's text TOLD by the authors' own Lean function (tested against real Go, not proved from fmt's source: count such statements apart). THE CARD IS WHAT COUNTS. Prove the row's statement (the work); the ties are given (YtepnlhjafgomgaaDoorTie.lean); close each card by the builder's one call (the guide's Derived/Test/ToyasCard.lean, 'card_holds'). Laid BY PROGRAM, IN A SANDBOX (cutbox-door.mjs). By AI agents, Wed Nov 11 2026. No macro, syntax, notation, axiom, sorry.
-/
import Derived.Test.YtepnlhjafgomgaaDoorRows
import GoSem.ClaimSeven
namespace Go.Proofs.YtepnlhjafgomgaaDoor
namespace Rows

/-- THE TIED CARD OF 'laws.FnServices'. -/
def fnServicesCard : Claim7 := { stood := { row := fnServicesRow, standIns := [], harness := (true, "583ae66cb07e6fcb8d7acbe3cdd069f4dc2c743bd5b9fa1f9a7a33ca425c2d64"), looks := true }, kinds := [], alts := [], laidByText := true, laidKinds := [.data, .data, .data, .sentinel, .sentinel], laidTests := true, laidLooks := .later }
def FnServicesCardSaid : Prop := Claim7.holds Tryd.pinned (.plain (OpenSpec.ofChange fnServicesSpec)) fnServicesCard

/-- THE SECOND FORM's CARD OF 'laws.FnServices'. -/
def fnServicesUptoCard : Claim7 := { stood := { row := fnServicesUptoRow, standIns := [], harness := (true, "583ae66cb07e6fcb8d7acbe3cdd069f4dc2c743bd5b9fa1f9a7a33ca425c2d64"), looks := true }, kinds := [], alts := [], laidByText := true, laidKinds := [.data, .data, .data, .sentinel, .sentinel], laidTests := true, laidLooks := .later }
def FnServicesUptoCardSaid : Prop := Claim7.holds Tryd.pinned (.plain (OpenSpec.upto fnServicesSpec)) fnServicesUptoCard
end Rows
end Go.Proofs.YtepnlhjafgomgaaDoor
