/- A slice of numbers among the arguments, at this seat's types. -/
import Derived.Test.YtijceaapfbpfcaaDoorFolX
namespace Go.Proofs.YtijceaapfbpfcaaDoor
open Go.RowKit
theorem ints37_open {H : Type} {enc : TypeId × Value → H} {W : World} {a : Option Addr} {len cap : Nat} {d : DataW H} {p : List MemPlace} (h : DataW.Trod enc Tryd.prog W 0 (fun _ => true) true 37 (.slice a len cap) d p) :
    ∃ l : List Int, l.length = len ∧ IsInts W a l ∧ l.length ≤ maxLen := ints_open Tryd.underlying37 Tryd.underlying3 (by kernel_rfl) h
end Go.Proofs.YtijceaapfbpfcaaDoor
