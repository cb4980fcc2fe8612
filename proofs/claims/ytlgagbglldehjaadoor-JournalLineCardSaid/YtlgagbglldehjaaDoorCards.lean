/-
  DERIVED. GIVEN WITH THE SEED: THE CARDS: each row of YtlgagbglldehjaaDoorRows.lean that lists a variable, with what it lists TIED to the program's text (the seventh form; the later family's looks); each row that meets fmt, with fmt's text TOLD by the authors' own Lean function (tested against real Go, not proved from fmt's source: count such statements apart). THE CARD IS WHAT COUNTS. Prove the row's statement (the work); the ties are given (YtlgagbglldehjaaDoorTie.lean); close each card by the builder's one call (the guide's Derived/Test/ToyasCard.lean, 'card_holds'). Laid BY PROGRAM, IN A SANDBOX (cutbox-door.mjs). By AI agents, Wed Nov 11 2026. No macro, syntax, notation, axiom, sorry.
-/
import Derived.Test.YtlgagbglldehjaaDoorRows
import GoSem.ClaimSeven
namespace Go.Proofs.YtlgagbglldehjaaDoor
namespace Rows

/-- THE TIED CARD OF 'guiselaw22.JournalLine'. -/
def journalLineCard : Claim7 := { stood := { row := journalLineRow, standIns := [], harness := (true, "61c8f33b25e0445d0f415b582391093cee99ac13a32fc2b5ebf26ab0d0d526e4"), looks := false }, kinds := [], alts := [], laidByText := true, laidKinds := [.data, .data, .data, .data, .pinned], laidTests := true, laidLooks := .later }
def JournalLineCardSaid : Prop := Claim7.holds Tryd.pinned (.plain (OpenSpec.ofChange journalLineSpec)) journalLineCard

/-- THE TIED CARD OF 'guiselaw22.JournalRead'. -/
def journalReadCard : Claim7 := { stood := { row := journalReadRow, standIns := [], harness := (true, "61c8f33b25e0445d0f415b582391093cee99ac13a32fc2b5ebf26ab0d0d526e4"), looks := false }, kinds := [], alts := [], laidByText := true, laidKinds := [.data, .data, .data, .data, .pinned], laidTests := true, laidLooks := .later }
def JournalReadCardSaid : Prop := Claim7.holds Tryd.pinned (.plain (OpenSpec.ofChange journalReadSpec)) journalReadCard

/-- THE TIED CARD OF 'guiselaw22.JournalThere'. -/
def journalThereCard : Claim7 := { stood := { row := journalThereRow, standIns := [], harness := (true, "61c8f33b25e0445d0f415b582391093cee99ac13a32fc2b5ebf26ab0d0d526e4"), looks := false }, kinds := [], alts := [], laidByText := true, laidKinds := [.data, .data, .data, .data, .pinned], laidTests := true, laidLooks := .later }
def JournalThereCardSaid : Prop := Claim7.holds Tryd.pinned (.plain (OpenSpec.ofChange journalThereSpec)) journalThereCard

/-- THE TIED CARD OF 'guiselaw22.JournalStops'. -/
def journalStopsCard : Claim7 := { stood := { row := journalStopsRow, standIns := [], harness := (true, "61c8f33b25e0445d0f415b582391093cee99ac13a32fc2b5ebf26ab0d0d526e4"), looks := false }, kinds := [], alts := [], laidByText := true, laidKinds := [.data, .data, .data, .data, .pinned], laidTests := true, laidLooks := .later }
def JournalStopsCardSaid : Prop := Claim7.holds Tryd.pinned (.plain (OpenSpec.ofChange journalStopsSpec)) journalStopsCard

/-- THE SECOND FORM's CARD OF 'guiselaw22.JournalLine'. -/
def journalLineUptoCard : Claim7 := { stood := { row := journalLineUptoRow, standIns := [], harness := (true, "61c8f33b25e0445d0f415b582391093cee99ac13a32fc2b5ebf26ab0d0d526e4"), looks := false }, kinds := [], alts := [], laidByText := true, laidKinds := [.data, .data, .data, .data, .pinned], laidTests := true, laidLooks := .later }
def JournalLineUptoCardSaid : Prop := Claim7.holds Tryd.pinned (.plain (OpenSpec.upto journalLineSpec)) journalLineUptoCard

/-- THE SECOND FORM's CARD OF 'guiselaw22.JournalRead'. -/
def journalReadUptoCard : Claim7 := { stood := { row := journalReadUptoRow, standIns := [], harness := (true, "61c8f33b25e0445d0f415b582391093cee99ac13a32fc2b5ebf26ab0d0d526e4"), looks := false }, kinds := [], alts := [], laidByText := true, laidKinds := [.data, .data, .data, .data, .pinned], laidTests := true, laidLooks := .later }
def JournalReadUptoCardSaid : Prop := Claim7.holds Tryd.pinned (.plain (OpenSpec.upto journalReadSpec)) journalReadUptoCard

/-- THE SECOND FORM's CARD OF 'guiselaw22.JournalThere'. -/
def journalThereUptoCard : Claim7 := { stood := { row := journalThereUptoRow, standIns := [], harness := (true, "61c8f33b25e0445d0f415b582391093cee99ac13a32fc2b5ebf26ab0d0d526e4"), looks := false }, kinds := [], alts := [], laidByText := true, laidKinds := [.data, .data, .data, .data, .pinned], laidTests := true, laidLooks := .later }
def JournalThereUptoCardSaid : Prop := Claim7.holds Tryd.pinned (.plain (OpenSpec.upto journalThereSpec)) journalThereUptoCard

/-- THE SECOND FORM's CARD OF 'guiselaw22.JournalStops'. -/
def journalStopsUptoCard : Claim7 := { stood := { row := journalStopsUptoRow, standIns := [], harness := (true, "61c8f33b25e0445d0f415b582391093cee99ac13a32fc2b5ebf26ab0d0d526e4"), looks := false }, kinds := [], alts := [], laidByText := true, laidKinds := [.data, .data, .data, .data, .pinned], laidTests := true, laidLooks := .later }
def JournalStopsUptoCardSaid : Prop := Claim7.holds Tryd.pinned (.plain (OpenSpec.upto journalStopsSpec)) journalStopsUptoCard
end Rows
end Go.Proofs.YtlgagbglldehjaaDoor
