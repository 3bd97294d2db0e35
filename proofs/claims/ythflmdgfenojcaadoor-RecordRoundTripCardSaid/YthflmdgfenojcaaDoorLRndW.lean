/- The law RoundTrip, as the frame wants it. -/
import Derived.Test.YthflmdgfenojcaaDoorLRnd
namespace Go.Proofs.YthflmdgfenojcaaDoor
open Go.RowKit
theorem recordRoundTrip_walk (w : World) (hw : KW w) (_ : True) (r : Rec) (hr : r.Fit) (s : ByteArray) (hs : s.size ≤ maxLen) : Calls Tryd.prog 3 #[r.val, .string s] w fun e w' => e = .returned (.bool true) ∧ Below w.heap.size w w' := round_any r s hr hs w hw
end Go.Proofs.YthflmdgfenojcaaDoor
