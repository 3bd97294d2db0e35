/-
  DERIVED. GIVEN WITH THE SEED: THE CARDS: each row of YtodlholfhgicoaaDoorRows.lean that lists a variable, with what it lists TIED to the program's text (the seventh form; the later family's looks); each row that meets fmt, with fmt's text TOLD by the authors' own Lean function (tested against real Go, not proved from fmt's source: count such statements apart). THE CARD IS WHAT COUNTS. Prove the row's statement (the work); the ties are given (YtodlholfhgicoaaDoorTie.lean); close each card by the builder's one call (the guide's Derived/Test/ToyasCard.lean, 'card_holds'). Laid BY PROGRAM, IN A SANDBOX (cutbox-door.mjs). By AI agents, Wed Nov 11 2026. No macro, syntax, notation, axiom, sorry.
-/
import Derived.Test.YtodlholfhgicoaaDoorRows
import GoSem.ClaimSeven
namespace Go.Proofs.YtodlholfhgicoaaDoor
namespace Rows

/-- THE TIED CARD OF 'cardnetlaw16.CryptogramMakes'. -/
def cryptogramMakesCard : Claim7 := { stood := { row := cryptogramMakesRow, standIns := [], harness := (true, "404a7079c379438f9d0c044a75cb370cd0aade1ecbe7ed4df1503b0c8ba995ef"), looks := false }, kinds := [], alts := [], laidByText := true, laidKinds := [.data, .data, .data], laidTests := true, laidLooks := .later }
def CryptogramMakesCardSaid : Prop := Claim7.holds Tryd.pinned (.plain (OpenSpec.ofChange cryptogramMakesSpec)) cryptogramMakesCard

/-- THE TIED CARD OF 'cardnetlaw16.CryptogramChecks'. -/
def cryptogramChecksCard : Claim7 := { stood := { row := cryptogramChecksRow, standIns := [], harness := (true, "404a7079c379438f9d0c044a75cb370cd0aade1ecbe7ed4df1503b0c8ba995ef"), looks := false }, kinds := [], alts := [], laidByText := true, laidKinds := [.data, .data, .data], laidTests := true, laidLooks := .later }
def CryptogramChecksCardSaid : Prop := Claim7.holds Tryd.pinned (.plain (OpenSpec.ofChange cryptogramChecksSpec)) cryptogramChecksCard

/-- THE TIED CARD OF 'cardnetlaw16.CryptogramOnce'. -/
def cryptogramOnceCard : Claim7 := { stood := { row := cryptogramOnceRow, standIns := [], harness := (true, "404a7079c379438f9d0c044a75cb370cd0aade1ecbe7ed4df1503b0c8ba995ef"), looks := false }, kinds := [], alts := [], laidByText := true, laidKinds := [.data, .data, .data], laidTests := true, laidLooks := .later }
def CryptogramOnceCardSaid : Prop := Claim7.holds Tryd.pinned (.plain (OpenSpec.ofChange cryptogramOnceSpec)) cryptogramOnceCard

/-- THE TIED CARD OF 'cardnetlaw16.CryptogramBinds'. -/
def cryptogramBindsCard : Claim7 := { stood := { row := cryptogramBindsRow, standIns := [], harness := (true, "404a7079c379438f9d0c044a75cb370cd0aade1ecbe7ed4df1503b0c8ba995ef"), looks := false }, kinds := [], alts := [], laidByText := true, laidKinds := [.data, .data, .data], laidTests := true, laidLooks := .later }
def CryptogramBindsCardSaid : Prop := Claim7.holds Tryd.pinned (.plain (OpenSpec.ofChange cryptogramBindsSpec)) cryptogramBindsCard

/-- THE TIED CARD OF 'cardnetlaw16.CryptogramNobody'. -/
def cryptogramNobodyCard : Claim7 := { stood := { row := cryptogramNobodyRow, standIns := [], harness := (true, "404a7079c379438f9d0c044a75cb370cd0aade1ecbe7ed4df1503b0c8ba995ef"), looks := false }, kinds := [], alts := [], laidByText := true, laidKinds := [.data, .data, .data], laidTests := true, laidLooks := .later }
def CryptogramNobodyCardSaid : Prop := Claim7.holds Tryd.pinned (.plain (OpenSpec.ofChange cryptogramNobodySpec)) cryptogramNobodyCard

/-- THE SECOND FORM's CARD OF 'cardnetlaw16.CryptogramMakes'. -/
def cryptogramMakesUptoCard : Claim7 := { stood := { row := cryptogramMakesUptoRow, standIns := [], harness := (true, "404a7079c379438f9d0c044a75cb370cd0aade1ecbe7ed4df1503b0c8ba995ef"), looks := false }, kinds := [], alts := [], laidByText := true, laidKinds := [.data, .data, .data], laidTests := true, laidLooks := .later }
def CryptogramMakesUptoCardSaid : Prop := Claim7.holds Tryd.pinned (.plain (OpenSpec.upto cryptogramMakesSpec)) cryptogramMakesUptoCard

/-- THE SECOND FORM's CARD OF 'cardnetlaw16.CryptogramChecks'. -/
def cryptogramChecksUptoCard : Claim7 := { stood := { row := cryptogramChecksUptoRow, standIns := [], harness := (true, "404a7079c379438f9d0c044a75cb370cd0aade1ecbe7ed4df1503b0c8ba995ef"), looks := false }, kinds := [], alts := [], laidByText := true, laidKinds := [.data, .data, .data], laidTests := true, laidLooks := .later }
def CryptogramChecksUptoCardSaid : Prop := Claim7.holds Tryd.pinned (.plain (OpenSpec.upto cryptogramChecksSpec)) cryptogramChecksUptoCard

/-- THE SECOND FORM's CARD OF 'cardnetlaw16.CryptogramOnce'. -/
def cryptogramOnceUptoCard : Claim7 := { stood := { row := cryptogramOnceUptoRow, standIns := [], harness := (true, "404a7079c379438f9d0c044a75cb370cd0aade1ecbe7ed4df1503b0c8ba995ef"), looks := false }, kinds := [], alts := [], laidByText := true, laidKinds := [.data, .data, .data], laidTests := true, laidLooks := .later }
def CryptogramOnceUptoCardSaid : Prop := Claim7.holds Tryd.pinned (.plain (OpenSpec.upto cryptogramOnceSpec)) cryptogramOnceUptoCard

/-- THE SECOND FORM's CARD OF 'cardnetlaw16.CryptogramBinds'. -/
def cryptogramBindsUptoCard : Claim7 := { stood := { row := cryptogramBindsUptoRow, standIns := [], harness := (true, "404a7079c379438f9d0c044a75cb370cd0aade1ecbe7ed4df1503b0c8ba995ef"), looks := false }, kinds := [], alts := [], laidByText := true, laidKinds := [.data, .data, .data], laidTests := true, laidLooks := .later }
def CryptogramBindsUptoCardSaid : Prop := Claim7.holds Tryd.pinned (.plain (OpenSpec.upto cryptogramBindsSpec)) cryptogramBindsUptoCard

/-- THE SECOND FORM's CARD OF 'cardnetlaw16.CryptogramNobody'. -/
def cryptogramNobodyUptoCard : Claim7 := { stood := { row := cryptogramNobodyUptoRow, standIns := [], harness := (true, "404a7079c379438f9d0c044a75cb370cd0aade1ecbe7ed4df1503b0c8ba995ef"), looks := false }, kinds := [], alts := [], laidByText := true, laidKinds := [.data, .data, .data], laidTests := true, laidLooks := .later }
def CryptogramNobodyUptoCardSaid : Prop := Claim7.holds Tryd.pinned (.plain (OpenSpec.upto cryptogramNobodySpec)) cryptogramNobodyUptoCard
end Rows
end Go.Proofs.YtodlholfhgicoaaDoor
