/- Tiers, read as a list; what Check answers. No walk. -/
import Derived.Test.YtfhiepcjkocnlaaChecked
import Derived.WalkKit
import Derived.WalkSpells
import Derived.WalkLawsBesides
import Derived.Lib.Hide
import Derived.Handy
namespace Go.Proofs.Ytfhiepcjkocnlaa
set_option linter.unusedVariables false
open Go.RowKit

theorem ret_int {k : IntKind} {a b : Int} (h : a = b) : Ending.returned (.int k a) = .returned (.int k b) := by rw [h]
/-- The cells of a slice at this address are these. -/
def IsRow (w : World) (A : Option Addr) (xs : List Value) : Prop := xs.length = 0 ∨ ∃ b off, A = some ⟨b, off, none⟩ ∧ ∀ j v, xs[j]? = some v → w.cell? ⟨b, off + j, none⟩ = some v
theorem IsRow.below {w w' : World} {A : Option Addr} {xs : List Value} (h : IsRow w A xs) (hb : Below w.heap.size w w') : IsRow w' A xs := by
  rcases h with h | ⟨b, off, rfl, h⟩
  · exact .inl h
  · refine .inr ⟨b, off, rfl, fun j v hj => ?_⟩
    have hc := h j v hj
    rw [hb.cell (p := ⟨b, off + j, none⟩) (World.block_lt_of_cell? w _ hc)]; exact hc
/-- A tier. -/
structure Tr where
  f : Int
  p : Int
instance : Inhabited Tr := ⟨⟨0, 0⟩⟩
def trCells (x : Tr) : List Value := [.int .i64 x.f, .int .i64 x.p]
def cellsT (l : List Tr) : List Value := l.flatMap trCells
theorem cellsT_length (l : List Tr) : (cellsT l).length = l.length * 2 := by
  induction l with
  | nil => rfl
  | cons x l ih => rw [cellsT, List.flatMap_cons, List.length_append, List.length_cons]; rw [cellsT] at ih; rw [ih]; simp [trCells]; omega
theorem cellsT_at (l : List Tr) (k : Nat) (hk : k < l.length) : (cellsT l)[k * 2]? = some (.int .i64 l[k].f) ∧ (cellsT l)[k * 2 + 1]? = some (.int .i64 l[k].p) := by
  induction l generalizing k with
  | nil => simp at hk
  | cons x l ih =>
    cases k with
    | zero => exact ⟨rfl, rfl⟩
    | succ k =>
      have h := ih k (by simpa using hk)
      have e1 : (k + 1) * 2 = k * 2 + 2 := by omega
      rw [e1]
      exact h
/-- A tier's two cells. -/
theorem row_tier {w : World} {b off : Nat} {l : List Tr} (hc : ∀ j v, (cellsT l)[j]? = some v → w.cell? ⟨b, off + j, none⟩ = some v) (k : Nat) (hk : k < l.length) :
    w.cell? ⟨b, off + k * 2, none⟩ = some (.int .i64 l[k].f) ∧ w.cell? ⟨b, off + k * 2 + 1, none⟩ = some (.int .i64 l[k].p) :=
  ⟨hc _ _ (cellsT_at l k hk).1, by rw [Nat.add_assoc]; exact hc _ _ (cellsT_at l k hk).2⟩
/-- Is the i-th tier right, next to the one ahead of it? -/
def goodT (l : List Tr) (i : Nat) : Prop := (i = 0 → (l.getD 0 default).f = 1) ∧ (0 < i → (l.getD (i - 1) default).f < (l.getD i default).f) ∧ 0 ≤ (l.getD i default).p ∧ (l.getD i default).p ≤ 1000000000
instance (l : List Tr) (i : Nat) : Decidable (goodT l i) := by unfold goodT; infer_instance
def okT (l : List Tr) : Prop := ∀ i, i < l.length → goodT l i
instance (l : List Tr) : Decidable (okT l) := by unfold okT; infer_instance
/-- The error of tiers. -/
def chkE (l : List Tr) : Int := if l.length = 0 then 1 else if 64 < l.length then 3 else if okT l then 0 else 4
theorem chkE_0 {l : List Tr} (h : l.length = 0) : chkE l = 1 := by unfold chkE; rw [if_pos h]
theorem chkE_64 {l : List Tr} (h : 64 < l.length) : chkE l = 3 := by unfold chkE; rw [if_neg (by omega), if_pos h]
theorem chkE_ok {l : List Tr} (h0 : l.length ≠ 0) (h1 : ¬ 64 < l.length) (h : okT l) : chkE l = 0 := by unfold chkE; rw [if_neg h0, if_neg h1, if_pos h]
theorem chkE_no {l : List Tr} (h0 : l.length ≠ 0) (h1 : ¬ 64 < l.length) (i : Nat) (hi : i < l.length) (h : ¬ goodT l i) : chkE l = 4 := by
  unfold chkE; rw [if_neg h0, if_neg h1, if_neg (fun ho => h (ho i hi))]
theorem getD_at (l : List Tr) (k : Nat) (hk : k < l.length) : l.getD k default = l[k] := by
  rw [List.getD_eq_getElem?_getD, List.getElem?_eq_getElem hk]; rfl
end Go.Proofs.Ytfhiepcjkocnlaa
