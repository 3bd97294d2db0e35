/-
  DERIVED. GIVEN WITH THE SEED: THE CARDS: each row of YtiegoffdbhmfbaaDoorRows.lean that lists a variable, with what it lists TIED to the program's text (the seventh form; the later family's looks); each row that meets fmt, with fmt's text TOLD by the authors' own Lean function (tested against real Go, not proved from fmt's source: count such statements apart). THE CARD IS WHAT COUNTS. Prove the row's statement (the work); the ties are given (YtiegoffdbhmfbaaDoorTie.lean); close each card by the builder's one call (the guide's Derived/Test/ToyasCard.lean, 'card_holds'). Laid BY PROGRAM, IN A SANDBOX (cutbox-door.mjs). By AI agents, Wed Nov 11 2026. No macro, syntax, notation, axiom, sorry.
-/
import Derived.Test.YtiegoffdbhmfbaaDoorRows
import GoSem.ClaimSeven
namespace Go.Proofs.YtiegoffdbhmfbaaDoor
namespace Rows

/-- THE TIED CARD OF 'cardnetlaw21.BinrangeSpecific'. -/
def binrangeSpecificCard : Claim7 := { stood := { row := binrangeSpecificRow, standIns := [], harness := (true, "7bc6c482be1aac052d406a95b19ab6415530f2c03828e33de4eea61c3b3f025f"), looks := true }, kinds := [], alts := [], laidByText := true, laidKinds := [.data, .data, .data, .sentinel, .sentinel], laidTests := true, laidLooks := .later }
def BinrangeSpecificCardSaid : Prop := Claim7.holds Tryd.pinned (.plain (OpenSpec.ofChange binrangeSpecificSpec)) binrangeSpecificCard

/-- THE TIED CARD OF 'cardnetlaw21.BinrangeMerges'. -/
def binrangeMergesCard : Claim7 := { stood := { row := binrangeMergesRow, standIns := [], harness := (true, "7bc6c482be1aac052d406a95b19ab6415530f2c03828e33de4eea61c3b3f025f"), looks := true }, kinds := [], alts := [], laidByText := true, laidKinds := [.data, .data, .data, .sentinel, .sentinel], laidTests := true, laidLooks := .later }
def BinrangeMergesCardSaid : Prop := Claim7.holds Tryd.pinned (.plain (OpenSpec.ofChange binrangeMergesSpec)) binrangeMergesCard

/-- THE SECOND FORM's CARD OF 'cardnetlaw21.BinrangeSpecific'. -/
def binrangeSpecificUptoCard : Claim7 := { stood := { row := binrangeSpecificUptoRow, standIns := [], harness := (true, "7bc6c482be1aac052d406a95b19ab6415530f2c03828e33de4eea61c3b3f025f"), looks := true }, kinds := [], alts := [], laidByText := true, laidKinds := [.data, .data, .data, .sentinel, .sentinel], laidTests := true, laidLooks := .later }
def BinrangeSpecificUptoCardSaid : Prop := Claim7.holds Tryd.pinned (.plain (OpenSpec.upto binrangeSpecificSpec)) binrangeSpecificUptoCard

/-- THE SECOND FORM's CARD OF 'cardnetlaw21.BinrangeMerges'. -/
def binrangeMergesUptoCard : Claim7 := { stood := { row := binrangeMergesUptoRow, standIns := [], harness := (true, "7bc6c482be1aac052d406a95b19ab6415530f2c03828e33de4eea61c3b3f025f"), looks := true }, kinds := [], alts := [], laidByText := true, laidKinds := [.data, .data, .data, .sentinel, .sentinel], laidTests := true, laidLooks := .later }
def BinrangeMergesUptoCardSaid : Prop := Claim7.holds Tryd.pinned (.plain (OpenSpec.upto binrangeMergesSpec)) binrangeMergesUptoCard
end Rows
end Go.Proofs.YtiegoffdbhmfbaaDoor
