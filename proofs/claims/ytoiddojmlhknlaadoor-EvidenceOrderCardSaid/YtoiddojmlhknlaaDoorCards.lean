/-
  DERIVED. GIVEN WITH THE SEED: THE CARDS: each row of YtoiddojmlhknlaaDoorRows.lean that lists a variable, with what it lists TIED to the program's text (the seventh form; the later family's looks); each row that meets fmt, with fmt's text TOLD by the authors' own Lean function (tested against real Go, not proved from fmt's source: count such statements apart). THE CARD IS WHAT COUNTS. Prove the row's statement (the work); the ties are given (YtoiddojmlhknlaaDoorTie.lean); close each card by the builder's one call (the guide's Derived/Test/ToyasCard.lean, 'card_holds'). Laid BY PROGRAM, IN A SANDBOX (cutbox-door.mjs). By AI agents, Wed Nov 11 2026. No macro, syntax, notation, axiom, sorry.
-/
import Derived.Test.YtoiddojmlhknlaaDoorRows
import GoSem.ClaimSeven
namespace Go.Proofs.YtoiddojmlhknlaaDoor
namespace Rows

/-- THE TIED CARD OF 'cardnetlaw45.EvidenceFolders'. -/
def evidenceFoldersCard : Claim7 := { stood := { row := evidenceFoldersRow, standIns := [], harness := (true, "ae6a1e1b74e09abdabaefb798599e09524a5dcf59003a380df6657786099ac37"), looks := false }, kinds := [], alts := [], laidByText := true, laidKinds := [.data, .data, .data], laidTests := true, laidLooks := .later }
def EvidenceFoldersCardSaid : Prop := Claim7.holds Tryd.pinned (.plain (OpenSpec.ofChange evidenceFoldersSpec)) evidenceFoldersCard

/-- THE TIED CARD OF 'cardnetlaw45.EvidenceOrder'. -/
def evidenceOrderCard : Claim7 := { stood := { row := evidenceOrderRow, standIns := [], harness := (true, "ae6a1e1b74e09abdabaefb798599e09524a5dcf59003a380df6657786099ac37"), looks := false }, kinds := [], alts := [], laidByText := true, laidKinds := [.data, .data, .data], laidTests := true, laidLooks := .later }
def EvidenceOrderCardSaid : Prop := Claim7.holds Tryd.pinned (.plain (OpenSpec.ofChange evidenceOrderSpec)) evidenceOrderCard

/-- THE SECOND FORM's CARD OF 'cardnetlaw45.EvidenceFolders'. -/
def evidenceFoldersUptoCard : Claim7 := { stood := { row := evidenceFoldersUptoRow, standIns := [], harness := (true, "ae6a1e1b74e09abdabaefb798599e09524a5dcf59003a380df6657786099ac37"), looks := false }, kinds := [], alts := [], laidByText := true, laidKinds := [.data, .data, .data], laidTests := true, laidLooks := .later }
def EvidenceFoldersUptoCardSaid : Prop := Claim7.holds Tryd.pinned (.plain (OpenSpec.upto evidenceFoldersSpec)) evidenceFoldersUptoCard

/-- THE SECOND FORM's CARD OF 'cardnetlaw45.EvidenceOrder'. -/
def evidenceOrderUptoCard : Claim7 := { stood := { row := evidenceOrderUptoRow, standIns := [], harness := (true, "ae6a1e1b74e09abdabaefb798599e09524a5dcf59003a380df6657786099ac37"), looks := false }, kinds := [], alts := [], laidByText := true, laidKinds := [.data, .data, .data], laidTests := true, laidLooks := .later }
def EvidenceOrderUptoCardSaid : Prop := Claim7.holds Tryd.pinned (.plain (OpenSpec.upto evidenceOrderSpec)) evidenceOrderUptoCard
end Rows
end Go.Proofs.YtoiddojmlhknlaaDoor
