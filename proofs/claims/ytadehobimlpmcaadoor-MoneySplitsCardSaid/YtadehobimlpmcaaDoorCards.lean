/-
  DERIVED. GIVEN WITH THE SEED: THE CARDS: each row of YtadehobimlpmcaaDoorRows.lean that lists a variable, with what it lists TIED to the program's text (the seventh form; the later family's looks); each row that meets fmt, with fmt's text TOLD by the authors' own Lean function (tested against real Go, not proved from fmt's source: count such statements apart). THE CARD IS WHAT COUNTS. Prove the row's statement (the work); the ties are given (YtadehobimlpmcaaDoorTie.lean); close each card by the builder's one call (the guide's Derived/Test/ToyasCard.lean, 'card_holds'). Laid BY PROGRAM, IN A SANDBOX (cutbox-door.mjs). By AI agents, Wed Nov 11 2026. No macro, syntax, notation, axiom, sorry.
-/
import Derived.Test.YtadehobimlpmcaaDoorRows
import GoSem.ClaimSeven
namespace Go.Proofs.YtadehobimlpmcaaDoor
namespace Rows

/-- THE TIED CARD OF 'cardnetlaw01.MoneyScales'. -/
def moneyScalesCard : Claim7 := { stood := { row := moneyScalesRow, standIns := [], harness := (true, "b75ee47e9707e857a9e06a233d3a032aa2db501e640217d183145b8cf5ad6d64"), looks := false }, kinds := [], alts := [], laidByText := true, laidKinds := [.data, .data, .data, .data], laidTests := true, laidLooks := .later }
def MoneyScalesCardSaid : Prop := Claim7.holds Tryd.pinned (.plain (OpenSpec.ofChange moneyScalesSpec)) moneyScalesCard

/-- THE TIED CARD OF 'cardnetlaw01.MoneyShares'. -/
def moneySharesCard : Claim7 := { stood := { row := moneySharesRow, standIns := [], harness := (true, "b75ee47e9707e857a9e06a233d3a032aa2db501e640217d183145b8cf5ad6d64"), looks := false }, kinds := [], alts := [], laidByText := true, laidKinds := [.data, .data, .data, .data], laidTests := true, laidLooks := .later }
def MoneySharesCardSaid : Prop := Claim7.holds Tryd.pinned (.plain (OpenSpec.ofChange moneySharesSpec)) moneySharesCard

/-- THE TIED CARD OF 'cardnetlaw01.MoneySplits'. -/
def moneySplitsCard : Claim7 := { stood := { row := moneySplitsRow, standIns := [], harness := (true, "b75ee47e9707e857a9e06a233d3a032aa2db501e640217d183145b8cf5ad6d64"), looks := false }, kinds := [], alts := [], laidByText := true, laidKinds := [.data, .data, .data, .data], laidTests := true, laidLooks := .later }
def MoneySplitsCardSaid : Prop := Claim7.holds Tryd.pinned (.plain (OpenSpec.ofChange moneySplitsSpec)) moneySplitsCard

/-- THE TIED CARD OF 'cardnetlaw01.MoneyReads'. -/
def moneyReadsCard : Claim7 := { stood := { row := moneyReadsRow, standIns := [], harness := (true, "b75ee47e9707e857a9e06a233d3a032aa2db501e640217d183145b8cf5ad6d64"), looks := false }, kinds := [], alts := [], laidByText := true, laidKinds := [.data, .data, .data, .data], laidTests := true, laidLooks := .later }
def MoneyReadsCardSaid : Prop := Claim7.holds Tryd.pinned (.plain (OpenSpec.ofChange moneyReadsSpec)) moneyReadsCard

/-- THE TIED CARD OF 'cardnetlaw01.MoneyAdds'. -/
def moneyAddsCard : Claim7 := { stood := { row := moneyAddsRow, standIns := [], harness := (true, "b75ee47e9707e857a9e06a233d3a032aa2db501e640217d183145b8cf5ad6d64"), looks := false }, kinds := [], alts := [], laidByText := true, laidKinds := [.data, .data, .data, .data], laidTests := true, laidLooks := .later }
def MoneyAddsCardSaid : Prop := Claim7.holds Tryd.pinned (.plain (OpenSpec.ofChange moneyAddsSpec)) moneyAddsCard

/-- THE TIED CARD OF 'cardnetlaw01.MoneyOrder'. -/
def moneyOrderCard : Claim7 := { stood := { row := moneyOrderRow, standIns := [], harness := (true, "b75ee47e9707e857a9e06a233d3a032aa2db501e640217d183145b8cf5ad6d64"), looks := false }, kinds := [], alts := [], laidByText := true, laidKinds := [.data, .data, .data, .data], laidTests := true, laidLooks := .later }
def MoneyOrderCardSaid : Prop := Claim7.holds Tryd.pinned (.plain (OpenSpec.ofChange moneyOrderSpec)) moneyOrderCard

/-- THE TIED CARD OF 'cardnetlaw01.MoneySums'. -/
def moneySumsCard : Claim7 := { stood := { row := moneySumsRow, standIns := [], harness := (true, "b75ee47e9707e857a9e06a233d3a032aa2db501e640217d183145b8cf5ad6d64"), looks := false }, kinds := [], alts := [], laidByText := true, laidKinds := [.data, .data, .data, .data], laidTests := true, laidLooks := .later }
def MoneySumsCardSaid : Prop := Claim7.holds Tryd.pinned (.plain (OpenSpec.ofChange moneySumsSpec)) moneySumsCard

/-- THE SECOND FORM's CARD OF 'cardnetlaw01.MoneyScales'. -/
def moneyScalesUptoCard : Claim7 := { stood := { row := moneyScalesUptoRow, standIns := [], harness := (true, "b75ee47e9707e857a9e06a233d3a032aa2db501e640217d183145b8cf5ad6d64"), looks := false }, kinds := [], alts := [], laidByText := true, laidKinds := [.data, .data, .data, .data], laidTests := true, laidLooks := .later }
def MoneyScalesUptoCardSaid : Prop := Claim7.holds Tryd.pinned (.plain (OpenSpec.upto moneyScalesSpec)) moneyScalesUptoCard

/-- THE SECOND FORM's CARD OF 'cardnetlaw01.MoneyShares'. -/
def moneySharesUptoCard : Claim7 := { stood := { row := moneySharesUptoRow, standIns := [], harness := (true, "b75ee47e9707e857a9e06a233d3a032aa2db501e640217d183145b8cf5ad6d64"), looks := false }, kinds := [], alts := [], laidByText := true, laidKinds := [.data, .data, .data, .data], laidTests := true, laidLooks := .later }
def MoneySharesUptoCardSaid : Prop := Claim7.holds Tryd.pinned (.plain (OpenSpec.upto moneySharesSpec)) moneySharesUptoCard

/-- THE SECOND FORM's CARD OF 'cardnetlaw01.MoneySplits'. -/
def moneySplitsUptoCard : Claim7 := { stood := { row := moneySplitsUptoRow, standIns := [], harness := (true, "b75ee47e9707e857a9e06a233d3a032aa2db501e640217d183145b8cf5ad6d64"), looks := false }, kinds := [], alts := [], laidByText := true, laidKinds := [.data, .data, .data, .data], laidTests := true, laidLooks := .later }
def MoneySplitsUptoCardSaid : Prop := Claim7.holds Tryd.pinned (.plain (OpenSpec.upto moneySplitsSpec)) moneySplitsUptoCard

/-- THE SECOND FORM's CARD OF 'cardnetlaw01.MoneyReads'. -/
def moneyReadsUptoCard : Claim7 := { stood := { row := moneyReadsUptoRow, standIns := [], harness := (true, "b75ee47e9707e857a9e06a233d3a032aa2db501e640217d183145b8cf5ad6d64"), looks := false }, kinds := [], alts := [], laidByText := true, laidKinds := [.data, .data, .data, .data], laidTests := true, laidLooks := .later }
def MoneyReadsUptoCardSaid : Prop := Claim7.holds Tryd.pinned (.plain (OpenSpec.upto moneyReadsSpec)) moneyReadsUptoCard

/-- THE SECOND FORM's CARD OF 'cardnetlaw01.MoneyAdds'. -/
def moneyAddsUptoCard : Claim7 := { stood := { row := moneyAddsUptoRow, standIns := [], harness := (true, "b75ee47e9707e857a9e06a233d3a032aa2db501e640217d183145b8cf5ad6d64"), looks := false }, kinds := [], alts := [], laidByText := true, laidKinds := [.data, .data, .data, .data], laidTests := true, laidLooks := .later }
def MoneyAddsUptoCardSaid : Prop := Claim7.holds Tryd.pinned (.plain (OpenSpec.upto moneyAddsSpec)) moneyAddsUptoCard

/-- THE SECOND FORM's CARD OF 'cardnetlaw01.MoneyOrder'. -/
def moneyOrderUptoCard : Claim7 := { stood := { row := moneyOrderUptoRow, standIns := [], harness := (true, "b75ee47e9707e857a9e06a233d3a032aa2db501e640217d183145b8cf5ad6d64"), looks := false }, kinds := [], alts := [], laidByText := true, laidKinds := [.data, .data, .data, .data], laidTests := true, laidLooks := .later }
def MoneyOrderUptoCardSaid : Prop := Claim7.holds Tryd.pinned (.plain (OpenSpec.upto moneyOrderSpec)) moneyOrderUptoCard

/-- THE SECOND FORM's CARD OF 'cardnetlaw01.MoneySums'. -/
def moneySumsUptoCard : Claim7 := { stood := { row := moneySumsUptoRow, standIns := [], harness := (true, "b75ee47e9707e857a9e06a233d3a032aa2db501e640217d183145b8cf5ad6d64"), looks := false }, kinds := [], alts := [], laidByText := true, laidKinds := [.data, .data, .data, .data], laidTests := true, laidLooks := .later }
def MoneySumsUptoCardSaid : Prop := Claim7.holds Tryd.pinned (.plain (OpenSpec.upto moneySumsSpec)) moneySumsUptoCard
end Rows
end Go.Proofs.YtadehobimlpmcaaDoor
