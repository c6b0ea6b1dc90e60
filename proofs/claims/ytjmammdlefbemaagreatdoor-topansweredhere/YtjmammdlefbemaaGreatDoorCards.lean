/-
  DERIVED. GIVEN WITH THE SEED: THE CARDS: each row of YtjmammdlefbemaaGreatDoorRows.lean that lists a variable, with what it lists TIED to the program's text (the seventh form; the later family's looks); each row that meets fmt, with fmt's text TOLD by the authors' own Lean function (tested against real Go, not proved from fmt's source: count such statements apart). THE CARD IS WHAT COUNTS. Prove the row's statement (the work); the ties are given (YtjmammdlefbemaaGreatDoorTie.lean); close each card by the builder's one call (the guide's Derived/Test/ToyasCard.lean, 'card_holds'). Laid BY PROGRAM, IN A SANDBOX (cutbox-door.mjs). By AI agents, Wed Nov 11 2026. No macro, syntax, notation, axiom, sorry.
-/
import Derived.Test.YtjmammdlefbemaaGreatDoorRows
import GoSem.ClaimSeven
namespace Go.Proofs.YtjmammdlefbemaaGreatDoor
namespace Rows

/-- THE TIED CARD OF 'flumetop.TopValuesByHand'. -/
def topValuesByHandCard : Claim7 := { stood := { row := topValuesByHandRow, standIns := [], harness := (true, "8acebe2e4ff797f77be2ea8d95a64d3c8683a075a9627bd04f42aed251324de7"), looks := true }, kinds := [], alts := [], laidByText := true, laidKinds := [.data, .data, .data, .data, .sentinel, .sentinel, .pinned], laidTests := true, laidLooks := .later }
def TopValuesByHandCardSaid : Prop := Claim7.holds Tryz.pinned (.plain (OpenSpec.ofChange topValuesByHandSpec)) topValuesByHandCard

/-- THE TIED CARD OF 'flumetop.TopMatched'. -/
def topMatchedCard : Claim7 := { stood := { row := topMatchedRow, standIns := [], harness := (true, "8acebe2e4ff797f77be2ea8d95a64d3c8683a075a9627bd04f42aed251324de7"), looks := true }, kinds := [], alts := [], laidByText := true, laidKinds := [.data, .data, .data, .data, .sentinel, .sentinel, .pinned], laidTests := true, laidLooks := .later }
def TopMatchedCardSaid : Prop := Claim7.holds Tryz.pinned (.plain (OpenSpec.ofChange topMatchedSpec)) topMatchedCard

/-- THE TIED CARD OF 'flumetop.TopAnsweredHere'. -/
def topAnsweredHereCard : Claim7 := { stood := { row := topAnsweredHereRow, standIns := [], harness := (true, "8acebe2e4ff797f77be2ea8d95a64d3c8683a075a9627bd04f42aed251324de7"), looks := true }, kinds := [], alts := [], laidByText := true, laidKinds := [.data, .data, .data, .data, .sentinel, .sentinel, .pinned], laidTests := true, laidLooks := .later }
def TopAnsweredHereCardSaid : Prop := Claim7.holds Tryz.pinned (.plain (OpenSpec.ofChange topAnsweredHereSpec)) topAnsweredHereCard

/-- THE TIED CARD OF 'flumetop.TopWindows'. -/
def topWindowsCard : Claim7 := { stood := { row := topWindowsRow, standIns := [], harness := (true, "8acebe2e4ff797f77be2ea8d95a64d3c8683a075a9627bd04f42aed251324de7"), looks := true }, kinds := [], alts := [], laidByText := true, laidKinds := [.data, .data, .data, .data, .sentinel, .sentinel, .pinned], laidTests := true, laidLooks := .later }
def TopWindowsCardSaid : Prop := Claim7.holds Tryz.pinned (.plain (OpenSpec.ofChange topWindowsSpec)) topWindowsCard

/-- THE SECOND FORM's CARD OF 'flumetop.TopValuesByHand'. -/
def topValuesByHandUptoCard : Claim7 := { stood := { row := topValuesByHandUptoRow, standIns := [], harness := (true, "8acebe2e4ff797f77be2ea8d95a64d3c8683a075a9627bd04f42aed251324de7"), looks := true }, kinds := [], alts := [], laidByText := true, laidKinds := [.data, .data, .data, .data, .sentinel, .sentinel, .pinned], laidTests := true, laidLooks := .later }
def TopValuesByHandUptoCardSaid : Prop := Claim7.holds Tryz.pinned (.plain (OpenSpec.upto topValuesByHandSpec)) topValuesByHandUptoCard

/-- THE SECOND FORM's CARD OF 'flumetop.TopMatched'. -/
def topMatchedUptoCard : Claim7 := { stood := { row := topMatchedUptoRow, standIns := [], harness := (true, "8acebe2e4ff797f77be2ea8d95a64d3c8683a075a9627bd04f42aed251324de7"), looks := true }, kinds := [], alts := [], laidByText := true, laidKinds := [.data, .data, .data, .data, .sentinel, .sentinel, .pinned], laidTests := true, laidLooks := .later }
def TopMatchedUptoCardSaid : Prop := Claim7.holds Tryz.pinned (.plain (OpenSpec.upto topMatchedSpec)) topMatchedUptoCard

/-- THE SECOND FORM's CARD OF 'flumetop.TopAnsweredHere'. -/
def topAnsweredHereUptoCard : Claim7 := { stood := { row := topAnsweredHereUptoRow, standIns := [], harness := (true, "8acebe2e4ff797f77be2ea8d95a64d3c8683a075a9627bd04f42aed251324de7"), looks := true }, kinds := [], alts := [], laidByText := true, laidKinds := [.data, .data, .data, .data, .sentinel, .sentinel, .pinned], laidTests := true, laidLooks := .later }
def TopAnsweredHereUptoCardSaid : Prop := Claim7.holds Tryz.pinned (.plain (OpenSpec.upto topAnsweredHereSpec)) topAnsweredHereUptoCard

/-- THE SECOND FORM's CARD OF 'flumetop.TopWindows'. -/
def topWindowsUptoCard : Claim7 := { stood := { row := topWindowsUptoRow, standIns := [], harness := (true, "8acebe2e4ff797f77be2ea8d95a64d3c8683a075a9627bd04f42aed251324de7"), looks := true }, kinds := [], alts := [], laidByText := true, laidKinds := [.data, .data, .data, .data, .sentinel, .sentinel, .pinned], laidTests := true, laidLooks := .later }
def TopWindowsUptoCardSaid : Prop := Claim7.holds Tryz.pinned (.plain (OpenSpec.upto topWindowsSpec)) topWindowsUptoCard
end Rows
end Go.Proofs.YtjmammdlefbemaaGreatDoor
