/-
  DERIVED. GIVEN WITH THE SEED: THE CARDS: each row of YtiegoffdbhmfbaaGreatDoorRows.lean that lists a variable, with what it lists TIED to the program's text (the seventh form; the later family's looks); each row that meets fmt, with fmt's text TOLD by the authors' own Lean function (tested against real Go, not proved from fmt's source: count such statements apart). THE CARD IS WHAT COUNTS. Prove the row's statement (the work); the ties are given (YtiegoffdbhmfbaaGreatDoorTie.lean); close each card by the builder's one call (the guide's Derived/Test/ToyasCard.lean, 'card_holds'). Laid BY PROGRAM, IN A SANDBOX (cutbox-door.mjs). By AI agents, Wed Nov 11 2026. No macro, syntax, notation, axiom, sorry.
-/
import Derived.Test.YtiegoffdbhmfbaaGreatDoorRows
import GoSem.ClaimSeven
namespace Go.Proofs.YtiegoffdbhmfbaaGreatDoor
namespace Rows

/-- THE TIED CARD OF 'cardnetlaw21.BinrangeFinds'. -/
def binrangeFindsCard : Claim7 := { stood := { row := binrangeFindsRow, standIns := [], harness := (true, "1a54494c380c35b6e7c0d6cace3daf670e0c78f4466a9915775cc67694258966"), looks := true }, kinds := [], alts := [], laidByText := true, laidKinds := [.data, .data, .data, .sentinel, .sentinel], laidTests := true, laidLooks := .later }
def BinrangeFindsCardSaid : Prop := Claim7.holds Tryz.pinned (.plain (OpenSpec.ofChange binrangeFindsSpec)) binrangeFindsCard

/-- THE TIED CARD OF 'cardnetlaw21.BinrangeRoundTrip'. -/
def binrangeRoundTripCard : Claim7 := { stood := { row := binrangeRoundTripRow, standIns := [], harness := (true, "1a54494c380c35b6e7c0d6cace3daf670e0c78f4466a9915775cc67694258966"), looks := true }, kinds := [], alts := [], laidByText := true, laidKinds := [.data, .data, .data, .sentinel, .sentinel], laidTests := true, laidLooks := .later }
def BinrangeRoundTripCardSaid : Prop := Claim7.holds Tryz.pinned (.plain (OpenSpec.ofChange binrangeRoundTripSpec)) binrangeRoundTripCard

/-- THE SECOND FORM's CARD OF 'cardnetlaw21.BinrangeFinds'. -/
def binrangeFindsUptoCard : Claim7 := { stood := { row := binrangeFindsUptoRow, standIns := [], harness := (true, "1a54494c380c35b6e7c0d6cace3daf670e0c78f4466a9915775cc67694258966"), looks := true }, kinds := [], alts := [], laidByText := true, laidKinds := [.data, .data, .data, .sentinel, .sentinel], laidTests := true, laidLooks := .later }
def BinrangeFindsUptoCardSaid : Prop := Claim7.holds Tryz.pinned (.plain (OpenSpec.upto binrangeFindsSpec)) binrangeFindsUptoCard

/-- THE SECOND FORM's CARD OF 'cardnetlaw21.BinrangeRoundTrip'. -/
def binrangeRoundTripUptoCard : Claim7 := { stood := { row := binrangeRoundTripUptoRow, standIns := [], harness := (true, "1a54494c380c35b6e7c0d6cace3daf670e0c78f4466a9915775cc67694258966"), looks := true }, kinds := [], alts := [], laidByText := true, laidKinds := [.data, .data, .data, .sentinel, .sentinel], laidTests := true, laidLooks := .later }
def BinrangeRoundTripUptoCardSaid : Prop := Claim7.holds Tryz.pinned (.plain (OpenSpec.upto binrangeRoundTripSpec)) binrangeRoundTripUptoCard
end Rows
end Go.Proofs.YtiegoffdbhmfbaaGreatDoor
