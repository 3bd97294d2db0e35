/- The law Debits, as the frame wants it. -/
import Derived.Test.YthflmdgfenojcaaDoorLDeb
namespace Go.Proofs.YthflmdgfenojcaaDoor
open Go.RowKit
theorem recordDebits_walk (w : World) (hw : KW w) (_ : True) (r : Rec) (hr : r.Fit) : Calls Tryd.prog 4 #[r.val] w fun e w' => e = .returned (.bool true) ∧ Below w.heap.size w w' := debits_any r hr w hw
end Go.Proofs.YthflmdgfenojcaaDoor
