/- Part of the proof over this seat. -/
import Derived.Test.YthflmdgfenojcaaGreatDoorQAwb
import Derived.Test.YthflmdgfenojcaaGreatDoorQRds
namespace Go.Proofs.YthflmdgfenojcaaGreatDoor
set_option linter.unusedVariables false
open Go.RowKit Go.Sort Go.Maps
theorem foldl_add (f : Rec → Int) (l : List Rec) : ∀ s : Int, l.foldl (fun s r => s + f r) s = s + l.foldl (fun s r => s + f r) 0 := by
  induction l with
  | nil => intro s; simp
  | cons a l ih => intro s; rw [List.foldl_cons, List.foldl_cons, ih (s + f a), ih (0 + f a)]; omega
theorem debS_app (a b : List Rec) : debS (a ++ b) (a ++ b).length = debS a a.length + debS b b.length := by
  unfold debS
  rw [List.take_length, List.take_length, List.take_length, List.foldl_append, foldl_add]
theorem creS_app (a b : List Rec) : creS (a ++ b) (a ++ b).length = creS a a.length + creS b b.length := by
  unfold creS
  rw [List.take_length, List.take_length, List.take_length, List.foldl_append, foldl_add]
theorem sumB_app (a b : List ByteArray) : C7.sumB (a ++ b) = C7.sumB a + C7.sumB b := by
  induction a with
  | nil => simp [C7.sumB]
  | cons x a ih => simp [C7.sumB] at *; omega
theorem totB_app (a b : List ByteArray) : C7.totB (a ++ b) = (C7.totB a + C7.totB b) % 100000000 := by
  rw [C7.totB_sum, C7.totB_sum, C7.totB_sum, sumB_app]; omega
theorem rows_one (l : List Rec) : ∀ u ∈ l.flatMap recF, u.oneCell' = true := by
  intro u hu
  obtain ⟨r, _, hr⟩ := List.mem_flatMap.1 hu
  have := rec_one r
  rw [Array.all_eq_true] at this
  obtain ⟨i, hi, rfl⟩ := List.getElem_of_mem hr
  exact this i hi
end Go.Proofs.YthflmdgfenojcaaGreatDoor
