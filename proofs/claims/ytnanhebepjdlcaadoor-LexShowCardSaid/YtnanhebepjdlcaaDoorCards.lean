/-
  DERIVED. GIVEN WITH THE SEED: THE CARDS: each row of YtnanhebepjdlcaaDoorRows.lean that lists a variable, with what it lists TIED to the program's text (the seventh form; the later family's looks); each row that meets fmt, with fmt's text TOLD by the authors' own Lean function (tested against real Go, not proved from fmt's source: count such statements apart). THE CARD IS WHAT COUNTS. Prove the row's statement (the work); the ties are given (YtnanhebepjdlcaaDoorTie.lean); close each card by the builder's one call (the guide's Derived/Test/ToyasCard.lean, 'card_holds'). Laid BY PROGRAM, IN A SANDBOX (cutbox-door.mjs). By AI agents, Wed Nov 11 2026. No macro, syntax, notation, axiom, sorry.
-/
import Derived.Test.YtnanhebepjdlcaaDoorRows
import GoSem.ClaimSeven
namespace Go.Proofs.YtnanhebepjdlcaaDoor
namespace Rows

/-- THE TIED CARD OF 'bootchainlaw12.LexMatches'. -/
def lexMatchesCard : Claim7 := { stood := { row := lexMatchesRow, standIns := [], harness := (true, "bb35f86288499312c4a9dfc568bd2fb738429a677f44e2989a0f332f348db642"), looks := true }, kinds := [], alts := [], laidByText := true, laidKinds := [.data, .data, .data, .data, .sentinel, .sentinel, .pinned], laidTests := true, laidLooks := .later }
def LexMatchesCardSaid : Prop := Claim7.holds Tryd.pinned (.plain (OpenSpec.ofChange lexMatchesSpec)) lexMatchesCard

/-- THE TIED CARD OF 'bootchainlaw12.LexShow'. -/
def lexShowCard : Claim7 := { stood := { row := lexShowRow, standIns := [], harness := (true, "bb35f86288499312c4a9dfc568bd2fb738429a677f44e2989a0f332f348db642"), looks := true }, kinds := [], alts := [], laidByText := true, laidKinds := [.data, .data, .data, .data, .sentinel, .sentinel, .pinned], laidTests := true, laidLooks := .later }
def LexShowCardSaid : Prop := Claim7.holds Tryd.pinned (.plain (OpenSpec.ofChange lexShowSpec)) lexShowCard

/-- THE TIED CARD OF 'bootchainlaw12.LexOffsets'. -/
def lexOffsetsCard : Claim7 := { stood := { row := lexOffsetsRow, standIns := [], harness := (true, "bb35f86288499312c4a9dfc568bd2fb738429a677f44e2989a0f332f348db642"), looks := true }, kinds := [], alts := [], laidByText := true, laidKinds := [.data, .data, .data, .data, .sentinel, .sentinel, .pinned], laidTests := true, laidLooks := .later }
def LexOffsetsCardSaid : Prop := Claim7.holds Tryd.pinned (.plain (OpenSpec.ofChange lexOffsetsSpec)) lexOffsetsCard

/-- THE TIED CARD OF 'bootchainlaw12.LexRoundTrip'. -/
def lexRoundTripCard : Claim7 := { stood := { row := lexRoundTripRow, standIns := [], harness := (true, "bb35f86288499312c4a9dfc568bd2fb738429a677f44e2989a0f332f348db642"), looks := true }, kinds := [], alts := [], laidByText := true, laidKinds := [.data, .data, .data, .data, .sentinel, .sentinel, .pinned], laidTests := true, laidLooks := .later }
def LexRoundTripCardSaid : Prop := Claim7.holds Tryd.pinned (.plain (OpenSpec.ofChange lexRoundTripSpec)) lexRoundTripCard

/-- THE TIED CARD OF 'bootchainlaw12.LexConcat'. -/
def lexConcatCard : Claim7 := { stood := { row := lexConcatRow, standIns := [], harness := (true, "bb35f86288499312c4a9dfc568bd2fb738429a677f44e2989a0f332f348db642"), looks := true }, kinds := [], alts := [], laidByText := true, laidKinds := [.data, .data, .data, .data, .sentinel, .sentinel, .pinned], laidTests := true, laidLooks := .later }
def LexConcatCardSaid : Prop := Claim7.holds Tryd.pinned (.plain (OpenSpec.ofChange lexConcatSpec)) lexConcatCard

/-- THE TIED CARD OF 'bootchainlaw12.LexNumbers'. -/
def lexNumbersCard : Claim7 := { stood := { row := lexNumbersRow, standIns := [], harness := (true, "bb35f86288499312c4a9dfc568bd2fb738429a677f44e2989a0f332f348db642"), looks := true }, kinds := [], alts := [], laidByText := true, laidKinds := [.data, .data, .data, .data, .sentinel, .sentinel, .pinned], laidTests := true, laidLooks := .later }
def LexNumbersCardSaid : Prop := Claim7.holds Tryd.pinned (.plain (OpenSpec.ofChange lexNumbersSpec)) lexNumbersCard

/-- THE SECOND FORM's CARD OF 'bootchainlaw12.LexMatches'. -/
def lexMatchesUptoCard : Claim7 := { stood := { row := lexMatchesUptoRow, standIns := [], harness := (true, "bb35f86288499312c4a9dfc568bd2fb738429a677f44e2989a0f332f348db642"), looks := true }, kinds := [], alts := [], laidByText := true, laidKinds := [.data, .data, .data, .data, .sentinel, .sentinel, .pinned], laidTests := true, laidLooks := .later }
def LexMatchesUptoCardSaid : Prop := Claim7.holds Tryd.pinned (.plain (OpenSpec.upto lexMatchesSpec)) lexMatchesUptoCard

/-- THE SECOND FORM's CARD OF 'bootchainlaw12.LexShow'. -/
def lexShowUptoCard : Claim7 := { stood := { row := lexShowUptoRow, standIns := [], harness := (true, "bb35f86288499312c4a9dfc568bd2fb738429a677f44e2989a0f332f348db642"), looks := true }, kinds := [], alts := [], laidByText := true, laidKinds := [.data, .data, .data, .data, .sentinel, .sentinel, .pinned], laidTests := true, laidLooks := .later }
def LexShowUptoCardSaid : Prop := Claim7.holds Tryd.pinned (.plain (OpenSpec.upto lexShowSpec)) lexShowUptoCard

/-- THE SECOND FORM's CARD OF 'bootchainlaw12.LexOffsets'. -/
def lexOffsetsUptoCard : Claim7 := { stood := { row := lexOffsetsUptoRow, standIns := [], harness := (true, "bb35f86288499312c4a9dfc568bd2fb738429a677f44e2989a0f332f348db642"), looks := true }, kinds := [], alts := [], laidByText := true, laidKinds := [.data, .data, .data, .data, .sentinel, .sentinel, .pinned], laidTests := true, laidLooks := .later }
def LexOffsetsUptoCardSaid : Prop := Claim7.holds Tryd.pinned (.plain (OpenSpec.upto lexOffsetsSpec)) lexOffsetsUptoCard

/-- THE SECOND FORM's CARD OF 'bootchainlaw12.LexRoundTrip'. -/
def lexRoundTripUptoCard : Claim7 := { stood := { row := lexRoundTripUptoRow, standIns := [], harness := (true, "bb35f86288499312c4a9dfc568bd2fb738429a677f44e2989a0f332f348db642"), looks := true }, kinds := [], alts := [], laidByText := true, laidKinds := [.data, .data, .data, .data, .sentinel, .sentinel, .pinned], laidTests := true, laidLooks := .later }
def LexRoundTripUptoCardSaid : Prop := Claim7.holds Tryd.pinned (.plain (OpenSpec.upto lexRoundTripSpec)) lexRoundTripUptoCard

/-- THE SECOND FORM's CARD OF 'bootchainlaw12.LexConcat'. -/
def lexConcatUptoCard : Claim7 := { stood := { row := lexConcatUptoRow, standIns := [], harness := (true, "bb35f86288499312c4a9dfc568bd2fb738429a677f44e2989a0f332f348db642"), looks := true }, kinds := [], alts := [], laidByText := true, laidKinds := [.data, .data, .data, .data, .sentinel, .sentinel, .pinned], laidTests := true, laidLooks := .later }
def LexConcatUptoCardSaid : Prop := Claim7.holds Tryd.pinned (.plain (OpenSpec.upto lexConcatSpec)) lexConcatUptoCard

/-- THE SECOND FORM's CARD OF 'bootchainlaw12.LexNumbers'. -/
def lexNumbersUptoCard : Claim7 := { stood := { row := lexNumbersUptoRow, standIns := [], harness := (true, "bb35f86288499312c4a9dfc568bd2fb738429a677f44e2989a0f332f348db642"), looks := true }, kinds := [], alts := [], laidByText := true, laidKinds := [.data, .data, .data, .data, .sentinel, .sentinel, .pinned], laidTests := true, laidLooks := .later }
def LexNumbersUptoCardSaid : Prop := Claim7.holds Tryd.pinned (.plain (OpenSpec.upto lexNumbersSpec)) lexNumbersUptoCard
end Rows
end Go.Proofs.YtnanhebepjdlcaaDoor
