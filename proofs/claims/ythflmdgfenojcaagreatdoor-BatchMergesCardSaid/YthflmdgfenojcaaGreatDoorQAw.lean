/- Part of the proof over this seat. -/
import Derived.Lib.ItoaWalk
import Derived.Test.YthflmdgfenojcaaGreatDoorQSl
namespace Go.Proofs.YthflmdgfenojcaaGreatDoor
set_option linter.unusedVariables false
open Go.RowKit Go.Sort
set_option maxRecDepth 100000 in
theorem neq_same (r : Rec) (w : World) : (binOp .neq 57 r.val r.val).run Tryz.prog w = .ok (.bool false) w := by
  unfold Rec.val Rec.cells
  rw [run_neq_struct]
  rw [run_equalIn_struct _ _ _ _ _ Tryz.underlying57 Tryz.stoodInHeld57]
  go_simp
theorem row12 {w w' : World} {X : Nat} {K : Int} {id au aq iss me ca : ByteArray} {a : Int} {cu : ByteArray} {d c : Int} {f : Bool} (hb : Below w.heap.size w w') (h : w.heap[X]? = some (.cells #[.int .i64 K, .string id, .string au, .string aq, .string iss, .string me, .string ca, .int .i64 a, .string cu, .int .i64 d, .int .i64 c, .bool f] 57)) :
    Below w.heap.size w w' ∧ w'.cell? ⟨X, 0, none⟩ = some (.int .i64 K) ∧ w'.cell? ⟨X, 1, none⟩ = some (.string id) ∧ w'.cell? ⟨X, 2, none⟩ = some (.string au) ∧ w'.cell? ⟨X, 3, none⟩ = some (.string aq) ∧ w'.cell? ⟨X, 4, none⟩ = some (.string iss) ∧ w'.cell? ⟨X, 5, none⟩ = some (.string me) ∧ w'.cell? ⟨X, 6, none⟩ = some (.string ca) ∧ w'.cell? ⟨X, 7, none⟩ = some (.int .i64 a) ∧ w'.cell? ⟨X, 8, none⟩ = some (.string cu) ∧ w'.cell? ⟨X, 9, none⟩ = some (.int .i64 d) ∧ w'.cell? ⟨X, 10, none⟩ = some (.int .i64 c) ∧ w'.cell? ⟨X, 11, none⟩ = some (.bool f) := by
  have h' := blk_later h hb
  exact ⟨hb, cell_c h' 0, cell_c h' 1, cell_c h' 2, cell_c h' 3, cell_c h' 4, cell_c h' 5, cell_c h' 6, cell_c h' 7, cell_c h' 8, cell_c h' 9, cell_c h' 10, cell_c h' 11⟩
end Go.Proofs.YthflmdgfenojcaaGreatDoor
