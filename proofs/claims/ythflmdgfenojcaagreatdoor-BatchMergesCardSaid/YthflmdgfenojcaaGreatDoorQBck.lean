/- Part of the proof over this seat. -/
import Derived.Outline
import Derived.Test.YthflmdgfenojcaaGreatDoorQBd
import Derived.Test.YthflmdgfenojcaaGreatDoorQBnm
import Derived.Test.YthflmdgfenojcaaGreatDoorQSum
import Derived.Test.YthflmdgfenojcaaGreatDoorQSl
namespace Go.Proofs.YthflmdgfenojcaaGreatDoor
set_option linter.unusedVariables false
open Go.RowKit Go.Maps
def batV (b : Bat) (A : Option Addr) (cp : Nat) : Value := .agg #[.string b.id, .string b.sd, .int .i64 b.dt, .slice A b.rs.length cp]
structure BatOk (b : Bat) : Prop where
  i : b.id.size ≤ maxLen
  s : b.sd.size ≤ maxLen
  r : ∀ x ∈ b.rs, x.Fit
theorem headE_5 {id sd : ByteArray} {dt : Int} (h : ¬ (idB id = true ∧ nameB sd.data.toList = true)) : headE id sd dt = 5 := by unfold headE; rw [if_neg h]
theorem headE_14 {id sd : ByteArray} {dt : Int} (h : idB id = true) (h2 : nameB sd.data.toList = true) (h3 : ¬ (0 ≤ dt ∧ dt ≤ 99999)) : headE id sd dt = 14 := by unfold headE; rw [if_pos ⟨h, h2⟩, if_neg h3]
theorem headE_0 {id sd : ByteArray} {dt : Int} (h : idB id = true) (h2 : nameB sd.data.toList = true) (h3 : 0 ≤ dt ∧ dt ≤ 99999) : headE id sd dt = 0 := by unfold headE; rw [if_pos ⟨h, h2⟩, if_pos h3]
theorem chkB_head {b : Bat} {E : Int} (h : headE b.id b.sd b.dt = E) (hE : E ≠ 0) : chkB b = E := by unfold chkB; rw [if_pos (by rw [h]; exact hE), h]
theorem chkB_3 {b : Bat} (h : headE b.id b.sd b.dt = 0) (h2 : 200 < b.rs.length) : chkB b = 3 := by unfold chkB; rw [if_neg (by simp [h]), if_pos h2]
theorem chkB_at {b : Bat} (h : headE b.id b.sd b.dt = 0) (h2 : b.rs.length ≤ 200) (k : Nat) (hk : k < b.rs.length) (h3 : ∀ j, j < k → ptL b.sd b.rs j = 0) (h4 : ptL b.sd b.rs k ≠ 0) : chkB b = ptL b.sd b.rs k := by
  unfold chkB; rw [if_neg (by simp [h]), if_neg (by omega), firstE_at _ k _ hk h3 h4]
theorem rcAt_fit {l : List Rec} (h : ∀ x ∈ l, x.Fit) (k : Nat) (hk : k < l.length) : (rcAt l k).Fit := by rw [rcAt_get l k hk]; exact h _ (List.getElem_mem hk)
end Go.Proofs.YthflmdgfenojcaaGreatDoor
