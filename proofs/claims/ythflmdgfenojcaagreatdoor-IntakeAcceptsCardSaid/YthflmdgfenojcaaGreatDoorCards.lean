/-
  DERIVED. GIVEN WITH THE SEED: THE CARDS: each row of YthflmdgfenojcaaGreatDoorRows.lean that lists a variable, with what it lists TIED to the program's text (the seventh form; the later family's looks); each row that meets fmt, with fmt's text TOLD by the authors' own Lean function (tested against real Go, not proved from fmt's source: count such statements apart). THE CARD IS WHAT COUNTS. Prove the row's statement (the work); the ties are given (YthflmdgfenojcaaGreatDoorTie.lean); close each card by the builder's one call (the guide's Derived/Test/ToyasCard.lean, 'card_holds'). Laid BY PROGRAM, IN A SANDBOX (cutbox-door.mjs). By AI agents, Wed Nov 11 2026. No macro, syntax, notation, axiom, sorry.
-/
import Derived.Test.YthflmdgfenojcaaGreatDoorRows
import GoSem.ClaimSeven
namespace Go.Proofs.YthflmdgfenojcaaGreatDoor
namespace Rows

/-- THE TIED CARD OF 'cardnetlaw34.IntakeAccepts'. -/
def intakeAcceptsCard : Claim7 := { stood := { row := intakeAcceptsRow, standIns := [], harness := (true, "b16012caa52e0753f2911f8cb13a683ad1103ae73fcb7b97f9dd900c3fdcec7c"), looks := true }, kinds := [], alts := [], laidByText := true, laidKinds := [.data, .data, .data, .data, .sentinel, .sentinel, .pinned], laidTests := true, laidLooks := .later }
def IntakeAcceptsCardSaid : Prop := Claim7.holds Tryz.pinned (.plain (OpenSpec.ofChange intakeAcceptsSpec)) intakeAcceptsCard

/-- THE TIED CARD OF 'cardnetlaw34.IntakeOnce'. -/
def intakeOnceCard : Claim7 := { stood := { row := intakeOnceRow, standIns := [], harness := (true, "b16012caa52e0753f2911f8cb13a683ad1103ae73fcb7b97f9dd900c3fdcec7c"), looks := true }, kinds := [], alts := [], laidByText := true, laidKinds := [.data, .data, .data, .data, .sentinel, .sentinel, .pinned], laidTests := true, laidLooks := .later }
def IntakeOnceCardSaid : Prop := Claim7.holds Tryz.pinned (.plain (OpenSpec.ofChange intakeOnceSpec)) intakeOnceCard

/-- THE TIED CARD OF 'cardnetlaw32.RecordChecks'. -/
def recordChecksCard : Claim7 := { stood := { row := recordChecksRow, standIns := [], harness := (true, "b16012caa52e0753f2911f8cb13a683ad1103ae73fcb7b97f9dd900c3fdcec7c"), looks := true }, kinds := [], alts := [], laidByText := true, laidKinds := [.data, .data, .data, .data, .sentinel, .sentinel, .pinned], laidTests := true, laidLooks := .later }
def RecordChecksCardSaid : Prop := Claim7.holds Tryz.pinned (.plain (OpenSpec.ofChange recordChecksSpec)) recordChecksCard

/-- THE TIED CARD OF 'cardnetlaw33.BatchCodes'. -/
def batchCodesCard : Claim7 := { stood := { row := batchCodesRow, standIns := [], harness := (true, "b16012caa52e0753f2911f8cb13a683ad1103ae73fcb7b97f9dd900c3fdcec7c"), looks := true }, kinds := [], alts := [], laidByText := true, laidKinds := [.data, .data, .data, .data, .sentinel, .sentinel, .pinned], laidTests := true, laidLooks := .later }
def BatchCodesCardSaid : Prop := Claim7.holds Tryz.pinned (.plain (OpenSpec.ofChange batchCodesSpec)) batchCodesCard

/-- THE TIED CARD OF 'cardnetlaw33.BatchRoundTrip'. -/
def batchRoundTripCard : Claim7 := { stood := { row := batchRoundTripRow, standIns := [], harness := (true, "b16012caa52e0753f2911f8cb13a683ad1103ae73fcb7b97f9dd900c3fdcec7c"), looks := true }, kinds := [], alts := [], laidByText := true, laidKinds := [.data, .data, .data, .data, .sentinel, .sentinel, .pinned], laidTests := true, laidLooks := .later }
def BatchRoundTripCardSaid : Prop := Claim7.holds Tryz.pinned (.plain (OpenSpec.ofChange batchRoundTripSpec)) batchRoundTripCard

/-- THE TIED CARD OF 'cardnetlaw33.BatchDetects'. -/
def batchDetectsCard : Claim7 := { stood := { row := batchDetectsRow, standIns := [], harness := (true, "b16012caa52e0753f2911f8cb13a683ad1103ae73fcb7b97f9dd900c3fdcec7c"), looks := true }, kinds := [], alts := [], laidByText := true, laidKinds := [.data, .data, .data, .data, .sentinel, .sentinel, .pinned], laidTests := true, laidLooks := .later }
def BatchDetectsCardSaid : Prop := Claim7.holds Tryz.pinned (.plain (OpenSpec.ofChange batchDetectsSpec)) batchDetectsCard

/-- THE TIED CARD OF 'cardnetlaw33.BatchTotals'. -/
def batchTotalsCard : Claim7 := { stood := { row := batchTotalsRow, standIns := [], harness := (true, "b16012caa52e0753f2911f8cb13a683ad1103ae73fcb7b97f9dd900c3fdcec7c"), looks := true }, kinds := [], alts := [], laidByText := true, laidKinds := [.data, .data, .data, .data, .sentinel, .sentinel, .pinned], laidTests := true, laidLooks := .later }
def BatchTotalsCardSaid : Prop := Claim7.holds Tryz.pinned (.plain (OpenSpec.ofChange batchTotalsSpec)) batchTotalsCard

/-- THE TIED CARD OF 'cardnetlaw33.BatchMerges'. -/
def batchMergesCard : Claim7 := { stood := { row := batchMergesRow, standIns := [], harness := (true, "b16012caa52e0753f2911f8cb13a683ad1103ae73fcb7b97f9dd900c3fdcec7c"), looks := true }, kinds := [], alts := [], laidByText := true, laidKinds := [.data, .data, .data, .data, .sentinel, .sentinel, .pinned], laidTests := true, laidLooks := .later }
def BatchMergesCardSaid : Prop := Claim7.holds Tryz.pinned (.plain (OpenSpec.ofChange batchMergesSpec)) batchMergesCard

/-- THE TIED CARD OF 'cardnetlaw34.IntakeMany'. -/
def intakeManyCard : Claim7 := { stood := { row := intakeManyRow, standIns := [], harness := (true, "b16012caa52e0753f2911f8cb13a683ad1103ae73fcb7b97f9dd900c3fdcec7c"), looks := true }, kinds := [], alts := [], laidByText := true, laidKinds := [.data, .data, .data, .data, .sentinel, .sentinel, .pinned], laidTests := true, laidLooks := .later }
def IntakeManyCardSaid : Prop := Claim7.holds Tryz.pinned (.plain (OpenSpec.ofChange intakeManySpec)) intakeManyCard

/-- THE SECOND FORM's CARD OF 'cardnetlaw34.IntakeAccepts'. -/
def intakeAcceptsUptoCard : Claim7 := { stood := { row := intakeAcceptsUptoRow, standIns := [], harness := (true, "b16012caa52e0753f2911f8cb13a683ad1103ae73fcb7b97f9dd900c3fdcec7c"), looks := true }, kinds := [], alts := [], laidByText := true, laidKinds := [.data, .data, .data, .data, .sentinel, .sentinel, .pinned], laidTests := true, laidLooks := .later }
def IntakeAcceptsUptoCardSaid : Prop := Claim7.holds Tryz.pinned (.plain (OpenSpec.upto intakeAcceptsSpec)) intakeAcceptsUptoCard

/-- THE SECOND FORM's CARD OF 'cardnetlaw34.IntakeOnce'. -/
def intakeOnceUptoCard : Claim7 := { stood := { row := intakeOnceUptoRow, standIns := [], harness := (true, "b16012caa52e0753f2911f8cb13a683ad1103ae73fcb7b97f9dd900c3fdcec7c"), looks := true }, kinds := [], alts := [], laidByText := true, laidKinds := [.data, .data, .data, .data, .sentinel, .sentinel, .pinned], laidTests := true, laidLooks := .later }
def IntakeOnceUptoCardSaid : Prop := Claim7.holds Tryz.pinned (.plain (OpenSpec.upto intakeOnceSpec)) intakeOnceUptoCard

/-- THE SECOND FORM's CARD OF 'cardnetlaw32.RecordChecks'. -/
def recordChecksUptoCard : Claim7 := { stood := { row := recordChecksUptoRow, standIns := [], harness := (true, "b16012caa52e0753f2911f8cb13a683ad1103ae73fcb7b97f9dd900c3fdcec7c"), looks := true }, kinds := [], alts := [], laidByText := true, laidKinds := [.data, .data, .data, .data, .sentinel, .sentinel, .pinned], laidTests := true, laidLooks := .later }
def RecordChecksUptoCardSaid : Prop := Claim7.holds Tryz.pinned (.plain (OpenSpec.upto recordChecksSpec)) recordChecksUptoCard

/-- THE SECOND FORM's CARD OF 'cardnetlaw33.BatchCodes'. -/
def batchCodesUptoCard : Claim7 := { stood := { row := batchCodesUptoRow, standIns := [], harness := (true, "b16012caa52e0753f2911f8cb13a683ad1103ae73fcb7b97f9dd900c3fdcec7c"), looks := true }, kinds := [], alts := [], laidByText := true, laidKinds := [.data, .data, .data, .data, .sentinel, .sentinel, .pinned], laidTests := true, laidLooks := .later }
def BatchCodesUptoCardSaid : Prop := Claim7.holds Tryz.pinned (.plain (OpenSpec.upto batchCodesSpec)) batchCodesUptoCard

/-- THE SECOND FORM's CARD OF 'cardnetlaw33.BatchRoundTrip'. -/
def batchRoundTripUptoCard : Claim7 := { stood := { row := batchRoundTripUptoRow, standIns := [], harness := (true, "b16012caa52e0753f2911f8cb13a683ad1103ae73fcb7b97f9dd900c3fdcec7c"), looks := true }, kinds := [], alts := [], laidByText := true, laidKinds := [.data, .data, .data, .data, .sentinel, .sentinel, .pinned], laidTests := true, laidLooks := .later }
def BatchRoundTripUptoCardSaid : Prop := Claim7.holds Tryz.pinned (.plain (OpenSpec.upto batchRoundTripSpec)) batchRoundTripUptoCard

/-- THE SECOND FORM's CARD OF 'cardnetlaw33.BatchDetects'. -/
def batchDetectsUptoCard : Claim7 := { stood := { row := batchDetectsUptoRow, standIns := [], harness := (true, "b16012caa52e0753f2911f8cb13a683ad1103ae73fcb7b97f9dd900c3fdcec7c"), looks := true }, kinds := [], alts := [], laidByText := true, laidKinds := [.data, .data, .data, .data, .sentinel, .sentinel, .pinned], laidTests := true, laidLooks := .later }
def BatchDetectsUptoCardSaid : Prop := Claim7.holds Tryz.pinned (.plain (OpenSpec.upto batchDetectsSpec)) batchDetectsUptoCard

/-- THE SECOND FORM's CARD OF 'cardnetlaw33.BatchTotals'. -/
def batchTotalsUptoCard : Claim7 := { stood := { row := batchTotalsUptoRow, standIns := [], harness := (true, "b16012caa52e0753f2911f8cb13a683ad1103ae73fcb7b97f9dd900c3fdcec7c"), looks := true }, kinds := [], alts := [], laidByText := true, laidKinds := [.data, .data, .data, .data, .sentinel, .sentinel, .pinned], laidTests := true, laidLooks := .later }
def BatchTotalsUptoCardSaid : Prop := Claim7.holds Tryz.pinned (.plain (OpenSpec.upto batchTotalsSpec)) batchTotalsUptoCard

/-- THE SECOND FORM's CARD OF 'cardnetlaw33.BatchMerges'. -/
def batchMergesUptoCard : Claim7 := { stood := { row := batchMergesUptoRow, standIns := [], harness := (true, "b16012caa52e0753f2911f8cb13a683ad1103ae73fcb7b97f9dd900c3fdcec7c"), looks := true }, kinds := [], alts := [], laidByText := true, laidKinds := [.data, .data, .data, .data, .sentinel, .sentinel, .pinned], laidTests := true, laidLooks := .later }
def BatchMergesUptoCardSaid : Prop := Claim7.holds Tryz.pinned (.plain (OpenSpec.upto batchMergesSpec)) batchMergesUptoCard

/-- THE SECOND FORM's CARD OF 'cardnetlaw34.IntakeMany'. -/
def intakeManyUptoCard : Claim7 := { stood := { row := intakeManyUptoRow, standIns := [], harness := (true, "b16012caa52e0753f2911f8cb13a683ad1103ae73fcb7b97f9dd900c3fdcec7c"), looks := true }, kinds := [], alts := [], laidByText := true, laidKinds := [.data, .data, .data, .data, .sentinel, .sentinel, .pinned], laidTests := true, laidLooks := .later }
def IntakeManyUptoCardSaid : Prop := Claim7.holds Tryz.pinned (.plain (OpenSpec.upto intakeManySpec)) intakeManyUptoCard
end Rows
end Go.Proofs.YthflmdgfenojcaaGreatDoor
