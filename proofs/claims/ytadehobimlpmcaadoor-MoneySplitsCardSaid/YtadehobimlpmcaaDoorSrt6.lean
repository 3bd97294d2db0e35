/- The walk of symMerge, whole. -/
import Derived.Test.YtadehobimlpmcaaDoorSrt4
import Derived.Test.YtadehobimlpmcaaDoorSrt5
namespace Go.Proofs.YtadehobimlpmcaaDoor
set_option linter.unusedVariables false
open Go.RowKit Go.Sort

theorem sym_any (BR blk cap N S : Nat) (r : Nat → Nat) (d0 : Array Nat) (w : World) (hcmp : CmpAt w BR blk N r S) (hH : Holds encI w blk 0 d0) (h0 : d0.size = S) (hsz : S < 1000000) : ∀ g, SymIH BR blk cap N S r w g := by
  intro g
  induction g with
  | zero => intro a m b q d hg hd hN h2; have := h2.am; have := h2.mb; omega
  | succ g ih =>
    intro a m b q d hg hd hN h2
    by_cases hm1 : m = a + 1
    · exact sym_one BR blk cap N S r d0 w hcmp hH h0 hsz g ih a m b q d hg hd hN h2 hm1
    · by_cases hb1 : b = m + 1
      · exact sym_two BR blk cap N S r d0 w hcmp hH h0 hsz g ih a m b q d hg hd hN h2 hm1 hb1
      · by_cases hq : (a + b) / 2 < m
        · exact sym_hi BR blk cap N S r d0 w hcmp hH h0 hsz g ih a m b q d hg hd hN h2 hm1 hb1 hq
        · exact sym_lo BR blk cap N S r d0 w hcmp hH h0 hsz g ih a m b q d hg hd hN h2 hm1 hb1 hq
end Go.Proofs.YtadehobimlpmcaaDoor
