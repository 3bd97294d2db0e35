/- The law Checks, as the frame wants it. -/
import Derived.Test.YtodlholfhgicoaaDoorLChk
namespace Go.Proofs.YtodlholfhgicoaaDoor
set_option linter.unusedVariables false
open Go.RowKit Go.Sort Go.Maps

theorem cryptogramChecks_walk (w : World) (hw : KW w) (_ : True) (k : Int) (hk : (Lit.int .u64 k).wf = true) (win : Int) (A : Option Addr) (cp : Nat) (l : List PayT)
    (h : IsRow w A (l.flatMap payF) ∧ (∀ x ∈ l, PayOk x) ∧ l.length ≤ cp ∧ (A = none → cp = 0) ∧ cp ≤ maxLen) :
    Calls Tryd.prog 4 #[.int .u64 k, .int .i64 win, .slice A l.length cp] w fun e w' => e = .returned (.bool true) ∧ Below w.heap.size w w' := by
  obtain ⟨m, rfl, hm⟩ := u64_nat hk
  exact checks_any m win A cp l w hw hm h.1 h.2.1 (Nat.le_trans h.2.2.1 h.2.2.2.2)
end Go.Proofs.YtodlholfhgicoaaDoor
