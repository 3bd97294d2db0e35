/- The law BatchTotals for opened arguments. -/
import Derived.Test.YthflmdgfenojcaaGreatDoorLTo
import Derived.Test.YthflmdgfenojcaaGreatDoorHbt
namespace Go.Proofs.YthflmdgfenojcaaGreatDoor
set_option linter.unusedVariables false
open Go.RowKit

theorem batchTotals_walk (w : World) (hw : BW w) (_ : True) (A : Option Addr) (ca : Nat) (la : List Rec) (ha : IsRow w A (la.flatMap recF) ∧ (∀ x ∈ la, x.Rch) ∧ la.length ≤ ca ∧ (A = none → ca = 0) ∧ ca ≤ maxLen) (B : Option Addr) (cb : Nat) (lb : List Rec) (hb : IsRow w B (lb.flatMap recF) ∧ (∀ x ∈ lb, x.Rch) ∧ lb.length ≤ cb ∧ (B = none → cb = 0) ∧ cb ≤ maxLen) :
    Calls Tryz.prog 9 #[.slice A la.length ca, .slice B lb.length cb] w fun e w' => e = .returned (.bool true) ∧ Below w.heap.size w w' :=
  totals_any A B ca cb la lb w hw ha.1 hb.1 ha.2.1 hb.2.1 ha.2.2.1 hb.2.2.1 (Nat.le_trans ha.2.2.1 ha.2.2.2.2) (Nat.le_trans hb.2.2.1 hb.2.2.2.2)
end Go.Proofs.YthflmdgfenojcaaGreatDoor
