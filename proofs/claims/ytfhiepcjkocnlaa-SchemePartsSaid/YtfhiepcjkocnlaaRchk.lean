/- The reference's Check answers as the program's. -/
import Derived.Test.YtfhiepcjkocnlaaRchkA
import Derived.Test.YtfhiepcjkocnlaaRchkB
import Derived.Test.YtfhiepcjkocnlaaRchkC
namespace Go.Proofs.Ytfhiepcjkocnlaa
set_option linter.unusedVariables false
open Go.RowKit

theorem first_bad (l : List Tr) : ∀ n, n ≤ l.length → (∀ j, j < n → goodT l j) ∨ ∃ i, i < n ∧ (∀ j, j < i → goodT l j) ∧ ¬ goodT l i
  | 0, _ => .inl (fun j h => by omega)
  | n + 1, h => by
    rcases first_bad l n (by omega) with h1 | ⟨i, hi, h1, h2⟩
    · by_cases hg : goodT l n
      · exact .inl (fun j hj => by
          rcases Nat.lt_or_ge j n with q | q
          · exact h1 j q
          · obtain rfl : j = n := by omega
            exact hg)
      · exact .inr ⟨n, by omega, h1, hg⟩
    · exact .inr ⟨i, by omega, h1, h2⟩
set_option maxHeartbeats 1600000 in
theorem rcheck_any (A : Option Addr) (c : Nat) (l : List Tr) (w : World) (hr : IsRow w A (cellsT l)) (hl : l.length ≤ 1000000) :
    Calls Try.prog 17 #[.slice A l.length c] w fun e w' => e = .returned (.int .i64 (chkE l)) ∧ Below w.heap.size w w' := by
  by_cases hz : l.length = 0
  · have he := Lib.hid (chkE_0 hz)
    have hzb : ((l.length : Int) == 0) = true := beq_iff_eq.2 (by omega)
    clear hr
    go_enter Try.func17, Try.ntmps17
    go_wp2_with fail
    go_ret
    exact ⟨by rw [he.out]; rfl, Below.refl _ _⟩
  by_cases h64 : 64 < l.length
  · have hzb : ((l.length : Int) == 0) = false := beq_eq_false_iff_ne.2 (by omega)
    have he := Lib.hid (chkE_64 h64)
    clear hr
    go_enter Try.func17, Try.ntmps17
    go_wp2_with fail
    go_ret
    exact ⟨by rw [he.out]; rfl, Below.refl _ _⟩
  rcases first_bad l l.length (Nat.le_refl _) with h | ⟨i, hi, h, hb⟩
  · exact rchk_ok A c l w hr hz h64 l.length rfl h
  · by_cases h1 : i = 0 ∧ (l.getD 0 default).f ≠ 1
    · exact rchk_first A c l w hr hz h64 i hi h h1.1 h1.2
    by_cases h2 : 0 < i ∧ (l.getD i default).f ≤ (l.getD (i - 1) default).f
    · exact rchk_order A c l w hr hz h64 i hi h h2.1 h2.2
    have g1 : i = 0 → (l.getD 0 default).f = 1 := fun e => Classical.byContradiction (fun q => h1 ⟨e, q⟩)
    have g2 : 0 < i → (l.getD (i - 1) default).f < (l.getD i default).f := fun e => Classical.byContradiction (fun q => h2 ⟨e, by omega⟩)
    by_cases h3 : (l.getD i default).p < 0
    · exact rchk_low A c l w hr hz h64 i hi h g1 g2 h3
    · exact rchk_high A c l w hr hz h64 i hi h g1 g2 (by omega) (Classical.byContradiction (fun q => hb ⟨g1, g2, by omega, by omega⟩))
end Go.Proofs.Ytfhiepcjkocnlaa
