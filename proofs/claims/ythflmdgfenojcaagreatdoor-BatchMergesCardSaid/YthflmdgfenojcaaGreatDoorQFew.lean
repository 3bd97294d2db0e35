/- Part of the proof over this seat. -/
import Derived.Test.YthflmdgfenojcaaGreatDoorQDcd
import Derived.Test.YthflmdgfenojcaaGreatDoorQAw
namespace Go.Proofs.YthflmdgfenojcaaGreatDoor
set_option linter.unusedVariables false
open Go.RowKit Go.Sort
def sh33 (r : Rec) : Bool := decide (szR r ≤ 500)
def fewB (l : List Rec) : Bool := decide (l.length ≤ 240) && l.all sh33
theorem few_all {l : List Rec} (h : fewB l = true) : l.length ≤ 240 ∧ ∀ x ∈ l, szR x ≤ 500 := by
  unfold fewB at h
  rw [Bool.and_eq_true, decide_eq_true_eq, List.all_eq_true] at h
  exact ⟨h.1, fun x hx => by have := h.2 x hx; unfold sh33 at this; exact of_decide_eq_true this⟩
def boB (b : Bat) : Bool := decide (b.id.size ≤ 500) && (decide (b.sd.size ≤ 500) && fewB b.rs)
end Go.Proofs.YthflmdgfenojcaaGreatDoor
