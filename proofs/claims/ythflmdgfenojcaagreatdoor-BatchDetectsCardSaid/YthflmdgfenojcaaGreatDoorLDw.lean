/- The laws BatchDetects and BatchRoundTrip for opened arguments. -/
import Derived.Test.YthflmdgfenojcaaGreatDoorLDe
import Derived.Test.YthflmdgfenojcaaGreatDoorOpb
namespace Go.Proofs.YthflmdgfenojcaaGreatDoor
set_option linter.unusedVariables false
open Go.RowKit

theorem batchDetects_walk (w : World) (hw : BW w) (_ : True) (x : BArg) (hx : BOk w x) (at_ : Int) (hat : (Lit.int .i64 at_).wf = true) (ch : Int) (hch : (Lit.int .u8 ch).wf = true) :
    Calls Tryz.prog 8 #[x.val, .int .i64 at_, .int .u8 ch] w fun e w' => e = .returned (.bool true) ∧ Below w.heap.size w w' := by
  have h1 := bounds_i64 hat
  have h8 := bounds_u8 hch
  obtain ⟨t, rfl⟩ : ∃ t : Nat, ch = t := ⟨ch.toNat, by omega⟩
  exact detects_any x.A x.cp x.b at_ t w hw hx.r hx.k hx.c (Nat.le_trans hx.c hx.m) (by omega) (by omega)
end Go.Proofs.YthflmdgfenojcaaGreatDoor
