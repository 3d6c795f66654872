/-
  DERIVED. GIVEN WITH THE SEED: THE CARDS: each row of YtmncdkecpnoogaaDoorRows.lean that lists a variable, with what it lists TIED to the program's text (the seventh form; the later family's looks); each row that meets fmt, with fmt's text TOLD by the authors' own Lean function (tested against real Go, not proved from fmt's source: count such statements apart). THE CARD IS WHAT COUNTS. Prove the row's statement (the work); the ties are given (YtmncdkecpnoogaaDoorTie.lean); close each card by the builder's one call (the guide's Derived/Test/ToyasCard.lean, 'card_holds'). Laid BY PROGRAM, IN A SANDBOX (cutbox-door.mjs). By AI agents, Wed Nov 11 2026. No macro, syntax, notation, axiom, sorry.
-/
import Derived.Test.YtmncdkecpnoogaaDoorRows
import GoSem.ClaimSeven
namespace Go.Proofs.YtmncdkecpnoogaaDoor
namespace Rows

/-- THE TIED CARD OF 'laws.FnExactClaimText'. -/
def fnExactClaimTextCard : Claim7 := { stood := { row := fnExactClaimTextRow, standIns := [], harness := (true, "5a0c9ce1bae97a0419c961ca30856236db439e9dae587ff7a9c6dde54f675723"), looks := true }, kinds := [], alts := [], laidByText := true, laidKinds := [.data, .data, .data], laidTests := true, laidLooks := .later }
def FnExactClaimTextCardSaid : Prop := Claim7.holds Tryd.pinned (.plain (OpenSpec.ofChange fnExactClaimTextSpec)) fnExactClaimTextCard

/-- THE TIED CARD OF 'laws.FnExactWordsOf'. -/
def fnExactWordsOfCard : Claim7 := { stood := { row := fnExactWordsOfRow, standIns := [], harness := (true, "5a0c9ce1bae97a0419c961ca30856236db439e9dae587ff7a9c6dde54f675723"), looks := true }, kinds := [], alts := [], laidByText := true, laidKinds := [.data, .pinned], laidTests := true, laidLooks := .later }
def FnExactWordsOfCardSaid : Prop := Claim7.holds Tryd.pinned (.plain (OpenSpec.ofChange fnExactWordsOfSpec)) fnExactWordsOfCard

/-- THE TIED CARD OF 'laws.FnExactNumberOf'. -/
def fnExactNumberOfCard : Claim7 := { stood := { row := fnExactNumberOfRow, standIns := [], harness := (true, "5a0c9ce1bae97a0419c961ca30856236db439e9dae587ff7a9c6dde54f675723"), looks := true }, kinds := [], alts := [], laidByText := true, laidKinds := [.data, .data, .data, .sentinel, .sentinel], laidTests := true, laidLooks := .later }
def FnExactNumberOfCardSaid : Prop := Claim7.holds Tryd.pinned (.plain (OpenSpec.ofChange fnExactNumberOfSpec)) fnExactNumberOfCard

/-- THE TIED CARD OF 'laws.FnExactServiceOf'. -/
def fnExactServiceOfCard : Claim7 := { stood := { row := fnExactServiceOfRow, standIns := [], harness := (true, "5a0c9ce1bae97a0419c961ca30856236db439e9dae587ff7a9c6dde54f675723"), looks := true }, kinds := [], alts := [], laidByText := true, laidKinds := [.data, .data, .data, .sentinel, .sentinel], laidTests := true, laidLooks := .later }
def FnExactServiceOfCardSaid : Prop := Claim7.holds Tryd.pinned (.plain (OpenSpec.ofChange fnExactServiceOfSpec)) fnExactServiceOfCard

/-- THE TIED CARD OF 'laws.FnServices'. -/
def fnServicesCard : Claim7 := { stood := { row := fnServicesRow, standIns := [], harness := (true, "5a0c9ce1bae97a0419c961ca30856236db439e9dae587ff7a9c6dde54f675723"), looks := true }, kinds := [], alts := [], laidByText := true, laidKinds := [.data, .data, .data, .sentinel, .sentinel], laidTests := true, laidLooks := .later }
def FnServicesCardSaid : Prop := Claim7.holds Tryd.pinned (.plain (OpenSpec.ofChange fnServicesSpec)) fnServicesCard

/-- THE TIED CARD OF 'laws.FnExactReadHex'. -/
def fnExactReadHexCard : Claim7 := { stood := { row := fnExactReadHexRow, standIns := [], harness := (true, "5a0c9ce1bae97a0419c961ca30856236db439e9dae587ff7a9c6dde54f675723"), looks := true }, kinds := [], alts := [], laidByText := true, laidKinds := [.data, .data, .data, .sentinel, .sentinel], laidTests := true, laidLooks := .later }
def FnExactReadHexCardSaid : Prop := Claim7.holds Tryd.pinned (.plain (OpenSpec.ofChange fnExactReadHexSpec)) fnExactReadHexCard

/-- THE SECOND FORM's CARD OF 'laws.FnExactClaimText'. -/
def fnExactClaimTextUptoCard : Claim7 := { stood := { row := fnExactClaimTextUptoRow, standIns := [], harness := (true, "5a0c9ce1bae97a0419c961ca30856236db439e9dae587ff7a9c6dde54f675723"), looks := true }, kinds := [], alts := [], laidByText := true, laidKinds := [.data, .data, .data], laidTests := true, laidLooks := .later }
def FnExactClaimTextUptoCardSaid : Prop := Claim7.holds Tryd.pinned (.plain (OpenSpec.upto fnExactClaimTextSpec)) fnExactClaimTextUptoCard

/-- THE SECOND FORM's CARD OF 'laws.FnExactWordsOf'. -/
def fnExactWordsOfUptoCard : Claim7 := { stood := { row := fnExactWordsOfUptoRow, standIns := [], harness := (true, "5a0c9ce1bae97a0419c961ca30856236db439e9dae587ff7a9c6dde54f675723"), looks := true }, kinds := [], alts := [], laidByText := true, laidKinds := [.data, .pinned], laidTests := true, laidLooks := .later }
def FnExactWordsOfUptoCardSaid : Prop := Claim7.holds Tryd.pinned (.plain (OpenSpec.upto fnExactWordsOfSpec)) fnExactWordsOfUptoCard

/-- THE SECOND FORM's CARD OF 'laws.FnExactNumberOf'. -/
def fnExactNumberOfUptoCard : Claim7 := { stood := { row := fnExactNumberOfUptoRow, standIns := [], harness := (true, "5a0c9ce1bae97a0419c961ca30856236db439e9dae587ff7a9c6dde54f675723"), looks := true }, kinds := [], alts := [], laidByText := true, laidKinds := [.data, .data, .data, .sentinel, .sentinel], laidTests := true, laidLooks := .later }
def FnExactNumberOfUptoCardSaid : Prop := Claim7.holds Tryd.pinned (.plain (OpenSpec.upto fnExactNumberOfSpec)) fnExactNumberOfUptoCard

/-- THE SECOND FORM's CARD OF 'laws.FnExactServiceOf'. -/
def fnExactServiceOfUptoCard : Claim7 := { stood := { row := fnExactServiceOfUptoRow, standIns := [], harness := (true, "5a0c9ce1bae97a0419c961ca30856236db439e9dae587ff7a9c6dde54f675723"), looks := true }, kinds := [], alts := [], laidByText := true, laidKinds := [.data, .data, .data, .sentinel, .sentinel], laidTests := true, laidLooks := .later }
def FnExactServiceOfUptoCardSaid : Prop := Claim7.holds Tryd.pinned (.plain (OpenSpec.upto fnExactServiceOfSpec)) fnExactServiceOfUptoCard

/-- THE SECOND FORM's CARD OF 'laws.FnServices'. -/
def fnServicesUptoCard : Claim7 := { stood := { row := fnServicesUptoRow, standIns := [], harness := (true, "5a0c9ce1bae97a0419c961ca30856236db439e9dae587ff7a9c6dde54f675723"), looks := true }, kinds := [], alts := [], laidByText := true, laidKinds := [.data, .data, .data, .sentinel, .sentinel], laidTests := true, laidLooks := .later }
def FnServicesUptoCardSaid : Prop := Claim7.holds Tryd.pinned (.plain (OpenSpec.upto fnServicesSpec)) fnServicesUptoCard

/-- THE SECOND FORM's CARD OF 'laws.FnExactReadHex'. -/
def fnExactReadHexUptoCard : Claim7 := { stood := { row := fnExactReadHexUptoRow, standIns := [], harness := (true, "5a0c9ce1bae97a0419c961ca30856236db439e9dae587ff7a9c6dde54f675723"), looks := true }, kinds := [], alts := [], laidByText := true, laidKinds := [.data, .data, .data, .sentinel, .sentinel], laidTests := true, laidLooks := .later }
def FnExactReadHexUptoCardSaid : Prop := Claim7.holds Tryd.pinned (.plain (OpenSpec.upto fnExactReadHexSpec)) fnExactReadHexUptoCard
end Rows
end Go.Proofs.YtmncdkecpnoogaaDoor
