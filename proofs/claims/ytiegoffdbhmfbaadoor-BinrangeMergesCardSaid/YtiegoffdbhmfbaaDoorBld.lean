/- strings.Builder.WriteString at this seat, out of the shelf. -/
import Derived.Test.YtiegoffdbhmfbaaDoorSor
import Derived.Test.YtiegoffdbhmfbaaDoorShelf
namespace Go.Proofs
theorem Tryd.lays166 : Lays.n166 Tryd.prog Tryd.lays105_ren := { Tryd.lays105 with }
end Go.Proofs
namespace Go.Proofs.YtiegoffdbhmfbaaDoor
set_option linter.unusedVariables false
open Go.RowKit
theorem ws_any (B b : Nat) (bs : List Value) (s : ByteArray) (w : World) (h : Lib.IsBuilder 56 5 B b bs w) (hlen : bs.length + s.size ≤ 140737488355328) (hBw : B ≤ w.heap.size) :
    Calls Tryd.prog 31 #[.pointer (some ⟨b, 0, none⟩), .string s] w fun e w' => e = .returned (.tuple #[.int .i64 s.size, .nilIface]) ∧ (Lib.BuilderAt 56 5 B b (.pointer (some ⟨b, 0, none⟩)) (bs ++ Lib.strCells s) w' ∧ Below B w w') :=
  Any.Builder_WriteString Tryd.lays166 Tryd.Builder_Extra_105 B b bs s w h hlen hBw
end Go.Proofs.YtiegoffdbhmfbaaDoor
