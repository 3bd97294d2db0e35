/- The walk of RoundTrip, as the frame wants it. -/
import Derived.Test.YtiegoffdbhmfbaaGreatDoorLRt
import Derived.Test.YtiegoffdbhmfbaaGreatDoorHead
namespace Go.Proofs.YtiegoffdbhmfbaaGreatDoor
set_option linter.unusedVariables false
open Go.RowKit
theorem binrangeRoundTrip_walk (w : World) (_ : True) (_ : True) (A : Option Addr) (cp : Nat) (l : List Rg) (h : IsRow w A (l.flatMap rgF) ∧ (∀ x ∈ l, RgOk x) ∧ l.length ≤ cp ∧ (A = none → cp = 0) ∧ cp ≤ maxLen) (s : ByteArray) (hs : s.size ≤ maxLen) :
    Calls Tryz.prog 4 #[.slice A l.length cp, .string s] w fun e w' => e = .returned (.bool true) ∧ Below w.heap.size w w' :=
  law_round _ l s w ⟨A, cp, rfl, h.1, h.2.2.1, h.2.2.2.2, h.2.2.2.1⟩ h.2.1 hs
end Go.Proofs.YtiegoffdbhmfbaaGreatDoor
