/-
  DERIVED. GIVEN WITH THE SEED: THE CARDS: each row of YthflmdgfenojcaaDoorRows.lean that lists a variable, with what it lists TIED to the program's text (the seventh form; the later family's looks); each row that meets fmt, with fmt's text TOLD by the authors' own Lean function (tested against real Go, not proved from fmt's source: count such statements apart). THE CARD IS WHAT COUNTS. Prove the row's statement (the work); the ties are given (YthflmdgfenojcaaDoorTie.lean); close each card by the builder's one call (the guide's Derived/Test/ToyasCard.lean, 'card_holds'). Laid BY PROGRAM, IN A SANDBOX (cutbox-door.mjs). By AI agents, Wed Nov 11 2026. No macro, syntax, notation, axiom, sorry.
-/
import Derived.Test.YthflmdgfenojcaaDoorRows
import GoSem.ClaimSeven
namespace Go.Proofs.YthflmdgfenojcaaDoor
namespace Rows

/-- THE TIED CARD OF 'cardnetlaw32.RecordRoundTrip'. -/
def recordRoundTripCard : Claim7 := { stood := { row := recordRoundTripRow, standIns := [], harness := (true, "4fb3774499166f32ec9fee823f3f080266c1ea3e58f585f36c33c963bf9b3e7e"), looks := true }, kinds := [], alts := [], laidByText := true, laidKinds := [.data, .data, .data, .data, .sentinel, .sentinel, .pinned], laidTests := true, laidLooks := .later }
def RecordRoundTripCardSaid : Prop := Claim7.holds Tryd.pinned (.plain (OpenSpec.ofChange recordRoundTripSpec)) recordRoundTripCard

/-- THE TIED CARD OF 'cardnetlaw32.RecordDebits'. -/
def recordDebitsCard : Claim7 := { stood := { row := recordDebitsRow, standIns := [], harness := (true, "4fb3774499166f32ec9fee823f3f080266c1ea3e58f585f36c33c963bf9b3e7e"), looks := true }, kinds := [], alts := [], laidByText := true, laidKinds := [.data, .data, .data, .data, .sentinel, .sentinel, .pinned], laidTests := true, laidLooks := .later }
def RecordDebitsCardSaid : Prop := Claim7.holds Tryd.pinned (.plain (OpenSpec.ofChange recordDebitsSpec)) recordDebitsCard

/-- THE TIED CARD OF 'cardnetlaw32.RecordOrder'. -/
def recordOrderCard : Claim7 := { stood := { row := recordOrderRow, standIns := [], harness := (true, "4fb3774499166f32ec9fee823f3f080266c1ea3e58f585f36c33c963bf9b3e7e"), looks := true }, kinds := [], alts := [], laidByText := true, laidKinds := [.data, .data, .data, .data, .sentinel, .sentinel, .pinned], laidTests := true, laidLooks := .later }
def RecordOrderCardSaid : Prop := Claim7.holds Tryd.pinned (.plain (OpenSpec.ofChange recordOrderSpec)) recordOrderCard

/-- THE SECOND FORM's CARD OF 'cardnetlaw32.RecordRoundTrip'. -/
def recordRoundTripUptoCard : Claim7 := { stood := { row := recordRoundTripUptoRow, standIns := [], harness := (true, "4fb3774499166f32ec9fee823f3f080266c1ea3e58f585f36c33c963bf9b3e7e"), looks := true }, kinds := [], alts := [], laidByText := true, laidKinds := [.data, .data, .data, .data, .sentinel, .sentinel, .pinned], laidTests := true, laidLooks := .later }
def RecordRoundTripUptoCardSaid : Prop := Claim7.holds Tryd.pinned (.plain (OpenSpec.upto recordRoundTripSpec)) recordRoundTripUptoCard

/-- THE SECOND FORM's CARD OF 'cardnetlaw32.RecordDebits'. -/
def recordDebitsUptoCard : Claim7 := { stood := { row := recordDebitsUptoRow, standIns := [], harness := (true, "4fb3774499166f32ec9fee823f3f080266c1ea3e58f585f36c33c963bf9b3e7e"), looks := true }, kinds := [], alts := [], laidByText := true, laidKinds := [.data, .data, .data, .data, .sentinel, .sentinel, .pinned], laidTests := true, laidLooks := .later }
def RecordDebitsUptoCardSaid : Prop := Claim7.holds Tryd.pinned (.plain (OpenSpec.upto recordDebitsSpec)) recordDebitsUptoCard

/-- THE SECOND FORM's CARD OF 'cardnetlaw32.RecordOrder'. -/
def recordOrderUptoCard : Claim7 := { stood := { row := recordOrderUptoRow, standIns := [], harness := (true, "4fb3774499166f32ec9fee823f3f080266c1ea3e58f585f36c33c963bf9b3e7e"), looks := true }, kinds := [], alts := [], laidByText := true, laidKinds := [.data, .data, .data, .data, .sentinel, .sentinel, .pinned], laidTests := true, laidLooks := .later }
def RecordOrderUptoCardSaid : Prop := Claim7.holds Tryd.pinned (.plain (OpenSpec.upto recordOrderSpec)) recordOrderUptoCard
end Rows
end Go.Proofs.YthflmdgfenojcaaDoor
