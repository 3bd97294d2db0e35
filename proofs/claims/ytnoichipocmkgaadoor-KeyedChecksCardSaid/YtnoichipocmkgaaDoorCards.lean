/-
  DERIVED. GIVEN WITH THE SEED: THE CARDS: each row of YtnoichipocmkgaaDoorRows.lean that lists a variable, with what it lists TIED to the program's text (the seventh form; the later family's looks); each row that meets fmt, with fmt's text TOLD by the authors' own Lean function (tested against real Go, not proved from fmt's source: count such statements apart). THE CARD IS WHAT COUNTS. Prove the row's statement (the work); the ties are given (YtnoichipocmkgaaDoorTie.lean); close each card by the builder's one call (the guide's Derived/Test/ToyasCard.lean, 'card_holds'). Laid BY PROGRAM, IN A SANDBOX (cutbox-door.mjs). By AI agents, Wed Nov 11 2026. No macro, syntax, notation, axiom, sorry.
-/
import Derived.Test.YtnoichipocmkgaaDoorRows
import GoSem.ClaimSeven
namespace Go.Proofs.YtnoichipocmkgaaDoor
namespace Rows

/-- THE TIED CARD OF 'cardnetlaw09.KeyedChecks'. -/
def keyedChecksCard : Claim7 := { stood := { row := keyedChecksRow, standIns := [], harness := (true, "bd041ebe05693825611588c262f586d5efb337be5d2bdb98bae1d7c5329eb5c3"), looks := true }, kinds := [], alts := [], laidByText := true, laidKinds := [.data, .data, .data, .sentinel, .sentinel], laidTests := true, laidLooks := .later }
def KeyedChecksCardSaid : Prop := Claim7.holds Tryd.pinned (.plain (OpenSpec.ofChange keyedChecksSpec)) keyedChecksCard

/-- THE TIED CARD OF 'cardnetlaw09.KeyedVerifies'. -/
def keyedVerifiesCard : Claim7 := { stood := { row := keyedVerifiesRow, standIns := [], harness := (true, "bd041ebe05693825611588c262f586d5efb337be5d2bdb98bae1d7c5329eb5c3"), looks := true }, kinds := [], alts := [], laidByText := true, laidKinds := [.data, .data, .data, .sentinel, .sentinel], laidTests := true, laidLooks := .later }
def KeyedVerifiesCardSaid : Prop := Claim7.holds Tryd.pinned (.plain (OpenSpec.ofChange keyedVerifiesSpec)) keyedVerifiesCard

/-- THE TIED CARD OF 'cardnetlaw09.KeyedMacs'. -/
def keyedMacsCard : Claim7 := { stood := { row := keyedMacsRow, standIns := [], harness := (true, "bd041ebe05693825611588c262f586d5efb337be5d2bdb98bae1d7c5329eb5c3"), looks := true }, kinds := [], alts := [], laidByText := true, laidKinds := [.data, .data, .data, .sentinel, .sentinel], laidTests := true, laidLooks := .later }
def KeyedMacsCardSaid : Prop := Claim7.holds Tryd.pinned (.plain (OpenSpec.ofChange keyedMacsSpec)) keyedMacsCard

/-- THE TIED CARD OF 'cardnetlaw09.KeyedDerives'. -/
def keyedDerivesCard : Claim7 := { stood := { row := keyedDerivesRow, standIns := [], harness := (true, "bd041ebe05693825611588c262f586d5efb337be5d2bdb98bae1d7c5329eb5c3"), looks := true }, kinds := [], alts := [], laidByText := true, laidKinds := [.data, .data, .data, .sentinel, .sentinel], laidTests := true, laidLooks := .later }
def KeyedDerivesCardSaid : Prop := Claim7.holds Tryd.pinned (.plain (OpenSpec.ofChange keyedDerivesSpec)) keyedDerivesCard

/-- THE SECOND FORM's CARD OF 'cardnetlaw09.KeyedChecks'. -/
def keyedChecksUptoCard : Claim7 := { stood := { row := keyedChecksUptoRow, standIns := [], harness := (true, "bd041ebe05693825611588c262f586d5efb337be5d2bdb98bae1d7c5329eb5c3"), looks := true }, kinds := [], alts := [], laidByText := true, laidKinds := [.data, .data, .data, .sentinel, .sentinel], laidTests := true, laidLooks := .later }
def KeyedChecksUptoCardSaid : Prop := Claim7.holds Tryd.pinned (.plain (OpenSpec.upto keyedChecksSpec)) keyedChecksUptoCard

/-- THE SECOND FORM's CARD OF 'cardnetlaw09.KeyedVerifies'. -/
def keyedVerifiesUptoCard : Claim7 := { stood := { row := keyedVerifiesUptoRow, standIns := [], harness := (true, "bd041ebe05693825611588c262f586d5efb337be5d2bdb98bae1d7c5329eb5c3"), looks := true }, kinds := [], alts := [], laidByText := true, laidKinds := [.data, .data, .data, .sentinel, .sentinel], laidTests := true, laidLooks := .later }
def KeyedVerifiesUptoCardSaid : Prop := Claim7.holds Tryd.pinned (.plain (OpenSpec.upto keyedVerifiesSpec)) keyedVerifiesUptoCard

/-- THE SECOND FORM's CARD OF 'cardnetlaw09.KeyedMacs'. -/
def keyedMacsUptoCard : Claim7 := { stood := { row := keyedMacsUptoRow, standIns := [], harness := (true, "bd041ebe05693825611588c262f586d5efb337be5d2bdb98bae1d7c5329eb5c3"), looks := true }, kinds := [], alts := [], laidByText := true, laidKinds := [.data, .data, .data, .sentinel, .sentinel], laidTests := true, laidLooks := .later }
def KeyedMacsUptoCardSaid : Prop := Claim7.holds Tryd.pinned (.plain (OpenSpec.upto keyedMacsSpec)) keyedMacsUptoCard

/-- THE SECOND FORM's CARD OF 'cardnetlaw09.KeyedDerives'. -/
def keyedDerivesUptoCard : Claim7 := { stood := { row := keyedDerivesUptoRow, standIns := [], harness := (true, "bd041ebe05693825611588c262f586d5efb337be5d2bdb98bae1d7c5329eb5c3"), looks := true }, kinds := [], alts := [], laidByText := true, laidKinds := [.data, .data, .data, .sentinel, .sentinel], laidTests := true, laidLooks := .later }
def KeyedDerivesUptoCardSaid : Prop := Claim7.holds Tryd.pinned (.plain (OpenSpec.upto keyedDerivesSpec)) keyedDerivesUptoCard
end Rows
end Go.Proofs.YtnoichipocmkgaaDoor
