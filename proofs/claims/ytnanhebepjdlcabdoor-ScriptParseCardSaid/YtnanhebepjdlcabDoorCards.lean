/-
  DERIVED. GIVEN WITH THE SEED: THE CARDS: each row of YtnanhebepjdlcabDoorRows.lean that lists a variable, with what it lists TIED to the program's text (the seventh form; the later family's looks); each row that meets fmt, with fmt's text TOLD by the authors' own Lean function (tested against real Go, not proved from fmt's source: count such statements apart). THE CARD IS WHAT COUNTS. Prove the row's statement (the work); the ties are given (YtnanhebepjdlcabDoorTie.lean); close each card by the builder's one call (the guide's Derived/Test/ToyasCard.lean, 'card_holds'). Laid BY PROGRAM, IN A SANDBOX (cutbox-door.mjs). By AI agents, Wed Nov 11 2026. No macro, syntax, notation, axiom, sorry.
-/
import Derived.Test.YtnanhebepjdlcabDoorRows
import GoSem.ClaimSeven
namespace Go.Proofs.YtnanhebepjdlcabDoor
namespace Rows

/-- THE TIED CARD OF 'bootchainlaw39.ScriptParse'. -/
def scriptParseCard : Claim7 := { stood := { row := scriptParseRow, standIns := [], harness := (true, "c548e4d156d91e0d7802c7346cd721c4d6c17b21ec1ca8f90d1deebf77dd4e1e"), looks := true }, kinds := [], alts := [], laidByText := true, laidKinds := [.data, .data, .data, .data, .sentinel, .sentinel, .data, .pinned], laidTests := true, laidLooks := .later }
def ScriptParseCardSaid : Prop := Claim7.holds Tryd.pinned (.plain (OpenSpec.ofChange scriptParseSpec)) scriptParseCard

/-- THE TIED CARD OF 'bootchainlaw39.ScriptCommand'. -/
def scriptCommandCard : Claim7 := { stood := { row := scriptCommandRow, standIns := [], harness := (true, "c548e4d156d91e0d7802c7346cd721c4d6c17b21ec1ca8f90d1deebf77dd4e1e"), looks := true }, kinds := [], alts := [], laidByText := true, laidKinds := [.data, .data, .data, .data, .sentinel, .sentinel, .data, .pinned], laidTests := true, laidLooks := .later }
def ScriptCommandCardSaid : Prop := Claim7.holds Tryd.pinned (.plain (OpenSpec.ofChange scriptCommandSpec)) scriptCommandCard

/-- THE TIED CARD OF 'bootchainlaw39.ScriptRoundTrip'. -/
def scriptRoundTripCard : Claim7 := { stood := { row := scriptRoundTripRow, standIns := [], harness := (true, "c548e4d156d91e0d7802c7346cd721c4d6c17b21ec1ca8f90d1deebf77dd4e1e"), looks := true }, kinds := [], alts := [], laidByText := true, laidKinds := [.data, .data, .data, .data, .sentinel, .sentinel, .data, .pinned], laidTests := true, laidLooks := .later }
def ScriptRoundTripCardSaid : Prop := Claim7.holds Tryd.pinned (.plain (OpenSpec.ofChange scriptRoundTripSpec)) scriptRoundTripCard

/-- THE TIED CARD OF 'bootchainlaw39.ScriptCanonical'. -/
def scriptCanonicalCard : Claim7 := { stood := { row := scriptCanonicalRow, standIns := [], harness := (true, "c548e4d156d91e0d7802c7346cd721c4d6c17b21ec1ca8f90d1deebf77dd4e1e"), looks := true }, kinds := [], alts := [], laidByText := true, laidKinds := [.data, .data, .data, .data, .sentinel, .sentinel, .data, .pinned], laidTests := true, laidLooks := .later }
def ScriptCanonicalCardSaid : Prop := Claim7.holds Tryd.pinned (.plain (OpenSpec.ofChange scriptCanonicalSpec)) scriptCanonicalCard

/-- THE TIED CARD OF 'bootchainlaw39.ScriptFaults'. -/
def scriptFaultsCard : Claim7 := { stood := { row := scriptFaultsRow, standIns := [], harness := (true, "c548e4d156d91e0d7802c7346cd721c4d6c17b21ec1ca8f90d1deebf77dd4e1e"), looks := true }, kinds := [], alts := [], laidByText := true, laidKinds := [.data, .data, .data, .data, .sentinel, .sentinel, .data, .pinned], laidTests := true, laidLooks := .later }
def ScriptFaultsCardSaid : Prop := Claim7.holds Tryd.pinned (.plain (OpenSpec.ofChange scriptFaultsSpec)) scriptFaultsCard

/-- THE TIED CARD OF 'bootchainlaw39.ScriptLines'. -/
def scriptLinesCard : Claim7 := { stood := { row := scriptLinesRow, standIns := [], harness := (true, "c548e4d156d91e0d7802c7346cd721c4d6c17b21ec1ca8f90d1deebf77dd4e1e"), looks := true }, kinds := [], alts := [], laidByText := true, laidKinds := [.data, .data, .data, .data, .sentinel, .sentinel, .data, .pinned], laidTests := true, laidLooks := .later }
def ScriptLinesCardSaid : Prop := Claim7.holds Tryd.pinned (.plain (OpenSpec.ofChange scriptLinesSpec)) scriptLinesCard

/-- THE SECOND FORM's CARD OF 'bootchainlaw39.ScriptParse'. -/
def scriptParseUptoCard : Claim7 := { stood := { row := scriptParseUptoRow, standIns := [], harness := (true, "c548e4d156d91e0d7802c7346cd721c4d6c17b21ec1ca8f90d1deebf77dd4e1e"), looks := true }, kinds := [], alts := [], laidByText := true, laidKinds := [.data, .data, .data, .data, .sentinel, .sentinel, .data, .pinned], laidTests := true, laidLooks := .later }
def ScriptParseUptoCardSaid : Prop := Claim7.holds Tryd.pinned (.plain (OpenSpec.upto scriptParseSpec)) scriptParseUptoCard

/-- THE SECOND FORM's CARD OF 'bootchainlaw39.ScriptCommand'. -/
def scriptCommandUptoCard : Claim7 := { stood := { row := scriptCommandUptoRow, standIns := [], harness := (true, "c548e4d156d91e0d7802c7346cd721c4d6c17b21ec1ca8f90d1deebf77dd4e1e"), looks := true }, kinds := [], alts := [], laidByText := true, laidKinds := [.data, .data, .data, .data, .sentinel, .sentinel, .data, .pinned], laidTests := true, laidLooks := .later }
def ScriptCommandUptoCardSaid : Prop := Claim7.holds Tryd.pinned (.plain (OpenSpec.upto scriptCommandSpec)) scriptCommandUptoCard

/-- THE SECOND FORM's CARD OF 'bootchainlaw39.ScriptRoundTrip'. -/
def scriptRoundTripUptoCard : Claim7 := { stood := { row := scriptRoundTripUptoRow, standIns := [], harness := (true, "c548e4d156d91e0d7802c7346cd721c4d6c17b21ec1ca8f90d1deebf77dd4e1e"), looks := true }, kinds := [], alts := [], laidByText := true, laidKinds := [.data, .data, .data, .data, .sentinel, .sentinel, .data, .pinned], laidTests := true, laidLooks := .later }
def ScriptRoundTripUptoCardSaid : Prop := Claim7.holds Tryd.pinned (.plain (OpenSpec.upto scriptRoundTripSpec)) scriptRoundTripUptoCard

/-- THE SECOND FORM's CARD OF 'bootchainlaw39.ScriptCanonical'. -/
def scriptCanonicalUptoCard : Claim7 := { stood := { row := scriptCanonicalUptoRow, standIns := [], harness := (true, "c548e4d156d91e0d7802c7346cd721c4d6c17b21ec1ca8f90d1deebf77dd4e1e"), looks := true }, kinds := [], alts := [], laidByText := true, laidKinds := [.data, .data, .data, .data, .sentinel, .sentinel, .data, .pinned], laidTests := true, laidLooks := .later }
def ScriptCanonicalUptoCardSaid : Prop := Claim7.holds Tryd.pinned (.plain (OpenSpec.upto scriptCanonicalSpec)) scriptCanonicalUptoCard

/-- THE SECOND FORM's CARD OF 'bootchainlaw39.ScriptFaults'. -/
def scriptFaultsUptoCard : Claim7 := { stood := { row := scriptFaultsUptoRow, standIns := [], harness := (true, "c548e4d156d91e0d7802c7346cd721c4d6c17b21ec1ca8f90d1deebf77dd4e1e"), looks := true }, kinds := [], alts := [], laidByText := true, laidKinds := [.data, .data, .data, .data, .sentinel, .sentinel, .data, .pinned], laidTests := true, laidLooks := .later }
def ScriptFaultsUptoCardSaid : Prop := Claim7.holds Tryd.pinned (.plain (OpenSpec.upto scriptFaultsSpec)) scriptFaultsUptoCard

/-- THE SECOND FORM's CARD OF 'bootchainlaw39.ScriptLines'. -/
def scriptLinesUptoCard : Claim7 := { stood := { row := scriptLinesUptoRow, standIns := [], harness := (true, "c548e4d156d91e0d7802c7346cd721c4d6c17b21ec1ca8f90d1deebf77dd4e1e"), looks := true }, kinds := [], alts := [], laidByText := true, laidKinds := [.data, .data, .data, .data, .sentinel, .sentinel, .data, .pinned], laidTests := true, laidLooks := .later }
def ScriptLinesUptoCardSaid : Prop := Claim7.holds Tryd.pinned (.plain (OpenSpec.upto scriptLinesSpec)) scriptLinesUptoCard
end Rows
end Go.Proofs.YtnanhebepjdlcabDoor
