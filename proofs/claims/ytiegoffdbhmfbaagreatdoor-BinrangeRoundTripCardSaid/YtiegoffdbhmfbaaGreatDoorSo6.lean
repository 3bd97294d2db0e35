/- The walk of symMerge, whole. -/
import Derived.Test.YtiegoffdbhmfbaaGreatDoorSo4
import Derived.Test.YtiegoffdbhmfbaaGreatDoorSo5
namespace Go.Proofs.YtiegoffdbhmfbaaGreatDoor
set_option linter.unusedVariables false
open Go.RowKit Go.Sort

theorem sym_any (f : Nat → Rg) (cm : Nat → Nat → Int) (blk cap N S : Nat) (r : Nat → Nat) (w0 : World) (hcmp : CmpR f cm N) (hcm : ∀ x y, x < N → y < N → ltR r x y = decide (cm x y < 0)) (hsz : S < 1000000) : ∀ g, SymIH f blk cap N S r w0 g := by
  intro g
  induction g with
  | zero => intro a m b d w hg hd hN h2 hR; have := h2.am; have := h2.mb; omega
  | succ g ih =>
    intro a m b d w hg hd hN h2 hR
    by_cases hm1 : m = a + 1
    · exact sym_one f cm blk cap N S r w0 hcmp hcm hsz g ih a m b d w hg hd hN h2 hR hm1
    · by_cases hb1 : b = m + 1
      · exact sym_two f cm blk cap N S r w0 hcmp hcm hsz g ih a m b d w hg hd hN h2 hR hm1 hb1
      · by_cases hq : (a + b) / 2 < m
        · exact sym_hi f cm blk cap N S r w0 hcmp hcm hsz g ih a m b d w hg hd hN h2 hR hm1 hb1 hq
        · exact sym_lo f cm blk cap N S r w0 hcmp hcm hsz g ih a m b d w hg hd hN h2 hR hm1 hb1 hq
end Go.Proofs.YtiegoffdbhmfbaaGreatDoor
