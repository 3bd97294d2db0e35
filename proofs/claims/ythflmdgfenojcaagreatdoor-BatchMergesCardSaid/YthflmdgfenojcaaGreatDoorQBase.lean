/- Part of the proof over this seat. -/
import Derived.Test.YthflmdgfenojcaaGreatDoorChecked
import Derived.WalkKit
import Derived.WalkSpells
import Derived.WalkLawsBesides
import Derived.Lib.Hide
import Derived.Handy
import Derived.StillTailTactics
import Derived.Deep.QuietTactic
import Derived.BigQuiet
import Derived.Deep.AppendLies
namespace Go.Proofs.YthflmdgfenojcaaGreatDoor
set_option linter.unusedVariables false
open Go.RowKit
def IsRow (w : World) (A : Option Addr) (xs : List Value) : Prop := xs.length = 0 ∨ ∃ b off, A = some ⟨b, off, none⟩ ∧ ∀ j v, xs[j]? = some v → w.cell? ⟨b, off + j, none⟩ = some v
theorem IsRow.below {w w' : World} {A : Option Addr} {xs : List Value} (h : IsRow w A xs) (hb : Below w.heap.size w w') : IsRow w' A xs := by
  rcases h with h | ⟨b, off, rfl, h⟩
  · exact .inl h
  · refine .inr ⟨b, off, rfl, fun j v hj => ?_⟩
    have hc := h j v hj
    rw [hb.cell (p := ⟨b, off + j, none⟩) (World.block_lt_of_cell? w _ hc)]; exact hc
theorem below_drewN (w : World) (k : Nat) : Below w.heap.size w (w.drewN k) := ⟨rfl, rfl, rfl, Nat.le_refl _, fun _ _ => rfl⟩
theorem dNb {B : Nat} {a w : World} (h : Below B a w) (k : Nat) : Below B a (w.drewN k) := h.trans ⟨rfl, rfl, rfl, Nat.le_refl _, fun _ _ => rfl⟩
theorem i64_eq {a b : Int} (h : a = b) : Value.int .i64 a = .int .i64 b := by rw [h]
theorem IsRow.of_own {w : World} {base : Nat} {e : TypeId} {size n c : Nat} {A : Option Addr} {xs : List Value} (h : w.ownsRow base e size (.slice A n c) n xs) : IsRow w A xs := by
  obtain ⟨h1, h2⟩ := h
  rcases h2 with ⟨hv, hn⟩ | ⟨g, cap, cur, hv, hb, hg, r1, r2, r3, r4⟩
  · exact .inl (by rw [h1, hn]; omega)
  · refine .inr ⟨g, 0, by injection hv, fun j v hj => ?_⟩
    rw [cell_of_row w g (0 + j) cur e (0, 0) hg, Nat.zero_add]
    rw [← r4, List.getElem?_take] at hj
    split at hj
    · simpa using hj
    · cases hj
theorem own_form {w : World} {base : Nat} {e : TypeId} {size n : Nat} {v : Value} {xs : List Value} (h : w.ownsRow base e size v n xs) : ∃ A c, v = .slice A n c ∧ IsRow w A xs ∧ n ≤ c := by
  rcases h.2 with ⟨hv, hn⟩ | ⟨g, cap, cur, hv, hb, hg, r1, r⟩
  · subst hn
    exact ⟨none, 0, hv, .inl (by rw [h.1]; omega), Nat.le_refl _⟩
  · exact ⟨_, cap, hv, IsRow.of_own (c := cap) (by rw [← hv]; exact h), r1⟩
end Go.Proofs.YthflmdgfenojcaaGreatDoor
