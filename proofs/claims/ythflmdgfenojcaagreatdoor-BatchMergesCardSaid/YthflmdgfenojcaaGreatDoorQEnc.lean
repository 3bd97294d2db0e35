/- Part of the proof over this seat. -/
import Derived.Laws.MakeOwn
import Derived.Laws.Rows
import Derived.Test.YthflmdgfenojcaaGreatDoorQNbr
namespace Go.Proofs.YthflmdgfenojcaaGreatDoor
set_option linter.unusedVariables false
open Go.RowKit
def barS : ByteArray := ⟨#[124]⟩
def finS (b : Bool) : ByteArray := if b then ⟨#[49]⟩ else ⟨#[48]⟩
def Rec.texts (r : Rec) : List ByteArray := [itoS r.k, r.id, r.au, r.aq, r.iss, r.me, r.ca, itoS r.a, r.cu, itoS r.d, itoS r.c, finS r.f]
def encS (r : Rec) : ByteArray := ⟨(Lib.join (r.texts.map (·.data.toList)) [124]).toArray⟩
def encV (r : Rec) : ByteArray := if chkE r = 0 then encS r else ⟨#[]⟩
/-- What Encode answers. -/
def EncPost (r : Rec) (w : World) (e : Ending) (w' : World) : Prop := e = .returned (.tuple #[.string (encV r), .int .i64 (chkE r)]) ∧ Below w.heap.size w w'
/-- Rooms: a row of the call's own and the record's box. -/
theorem Fit.ints (r : Rec) (h : chkE r = 0) : 1 ≤ r.k ∧ r.k ≤ 4 ∧ 1 ≤ r.a ∧ r.a ≤ 999999999999 ∧ 0 ≤ r.c ∧ r.c ≤ 9999 ∧ 0 ≤ r.d ∧ r.d ≤ 99999 := by
  have h0 : ∀ j, j < 6 → ptE r j = 0 := by
    intro j hj
    induction j using Nat.strongRecOn with
    | _ j ih =>
      by_cases q : ptE r j = 0
      · exact q
      · have := chkE_at r j hj (fun i hi => ih i hi (by omega)) q
        omega
  have a0 := h0 0 (by omega)
  have a4 := h0 4 (by omega)
  have a5 := h0 5 (by omega)
  unfold ptE at a0 a4 a5
  simp only [kindE, limE, dateE] at a0 a4 a5
  split at a0 <;> split at a4 <;> split at a5 <;> omega
end Go.Proofs.YthflmdgfenojcaaGreatDoor
