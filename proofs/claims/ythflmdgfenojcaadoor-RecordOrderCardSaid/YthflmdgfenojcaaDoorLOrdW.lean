/- The law Order, as the frame wants it. -/
import Derived.Test.YthflmdgfenojcaaDoorLOrd
namespace Go.Proofs.YthflmdgfenojcaaDoor
open Go.RowKit
theorem recordOrder_walk (w : World) (hw : KW w) (_ : True) (a : Rec) (_ : a.Fit) (b : Rec) (_ : b.Fit) (c : Rec) (_ : c.Fit) : Calls Tryd.prog 5 #[a.val, b.val, c.val] w fun e w' => e = .returned (.bool true) ∧ Below w.heap.size w w' := order_any a b c w hw
end Go.Proofs.YthflmdgfenojcaaDoor
