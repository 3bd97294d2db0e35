/- The equality of amounts, and the walk of Same. -/
import Derived.Test.YtadehobimlpmcaaDoorCmp
namespace Go.Proofs.YtadehobimlpmcaaDoor
set_option linter.unusedVariables false
open Go.RowKit

theorem bytes_eq (a b : ByteArray) : (a.toList == b.toList) = decide (a = b) := by
  rw [ByteArray.toList_eq, ByteArray.toList_eq, Bool.eq_iff_iff]
  simp only [beq_iff_eq, decide_eq_true_eq]
  exact ⟨fun h => ByteArray.ext (Array.toList_inj.1 h), fun h => by rw [h]⟩
theorem toList_iff (a b : ByteArray) : a.toList = b.toList ↔ a = b := by
  have := bytes_eq a b
  rw [Bool.eq_iff_iff] at this
  simpa using this
theorem fields23 : Tryd.prog.fieldsOf 23 = #[{ name := "Amount", type := 2, offset := 0, embedded := false, tag := "", pkgPath := "", byteOffset := 0 }, { name := "Currency", type := 9, offset := 1, embedded := false, tag := "", pkgPath := "", byteOffset := 8 }] := by kernel_rfl
theorem struct23 : Tryd.prog.underlying 23 = some (.struct (Tryd.prog.fieldsOf 23)) := by kernel_rfl
theorem eq_mon (a : Int) (s : ByteArray) (b : Int) (t : ByteArray) (w : World) : (binOp .eql 23 (.agg #[.int .i64 a, .string s]) (.agg #[.int .i64 b, .string t])).run Tryd.prog w = .ok (.bool (decide (a = b) && decide (s = t))) w := by
  rw [run_eql_struct]
  rw [run_equalIn_struct _ _ _ _ _ struct23 Tryd.stoodInHeld23, fields23]
  go_simp
  simp only [toList_iff]
  by_cases h1 : a = b <;> by_cases h2 : s = t <;> simp [h1, h2]
theorem neq_mon (a : Int) (s : ByteArray) (b : Int) (t : ByteArray) (w : World) : (binOp .neq 23 (.agg #[.int .i64 a, .string s]) (.agg #[.int .i64 b, .string t])).run Tryd.prog w = .ok (.bool !(decide (a = b) && decide (s = t))) w := by
  rw [run_neq_struct]
  rw [run_equalIn_struct _ _ _ _ _ struct23 Tryd.stoodInHeld23, fields23]
  go_simp
  simp only [toList_iff]
  by_cases h1 : a = b <;> by_cases h2 : s = t <;> simp [h1, h2]
theorem neq_same (a : Int) (s : ByteArray) (w : World) : (binOp .neq 23 (.agg #[.int .i64 a, .string s]) (.agg #[.int .i64 a, .string s])).run Tryd.prog w = .ok (.bool false) w := by
  rw [neq_mon]; simp
/-- A slice of amounts of one currency. -/
def RowM (w : World) (A : Option Addr) (n : Nat) (f : Nat → Int) (cur : ByteArray) : Prop := n = 0 ∨ ∃ b off, A = some ⟨b, off, none⟩ ∧ ∀ k, k < n → w.cell? ⟨b, off + k * 2, none⟩ = some (.int .i64 (f k)) ∧ w.cell? ⟨b, off + k * 2 + 1, none⟩ = some (.string cur)
theorem RowM.below {w w' : World} {A : Option Addr} {n : Nat} {f : Nat → Int} {cur : ByteArray} (h : RowM w A n f cur) (hb : Below w.heap.size w w') : RowM w' A n f cur := by
  rcases h with h | ⟨b, off, rfl, h⟩
  · exact .inl h
  · refine .inr ⟨b, off, rfl, fun k hk => ?_⟩
    obtain ⟨h1, h2⟩ := h k hk
    rw [hb.cell (p := ⟨b, off + k * 2, none⟩) (World.block_lt_of_cell? w _ h1), hb.cell (p := ⟨b, off + k * 2 + 1, none⟩) (World.block_lt_of_cell? w _ h2)]
    exact ⟨h1, h2⟩
set_option maxHeartbeats 1600000 in
theorem same_any (A : Option Addr) (c : Nat) (B : Option Addr) (d n : Nat) (f : Nat → Int) (cur : ByteArray) (w : World) (ha : RowM w A n f cur) (hb : RowM w B n f cur) (hn : n ≤ 1000000) :
    Calls Tryd.prog 15 #[.slice A n c, .slice B n d] w fun e w' => e = .returned (.bool true) ∧ Below w.heap.size w w' := by
  have HA := Lib.hid ha
  have HB := Lib.hid hb
  clear ha hb
  have hnn : ((n : Int) != (n : Int)) = false := by simp
  go_enter Tryd.func15, Tryd.ntmps15
  go_wp2_with fail
  clear hnn
  go_loopw [5] (fun i wr => ∃ k m : Nat, k ≤ n ∧ i = .int .i64 k ∧ wr = w.drewN m) (fun i _ => n - (intOf i).toNat)
  case atStart => exact ⟨0, 0, Nat.zero_le _, rfl, rfl⟩
  case round =>
    obtain ⟨k, m, hk, rfl, rfl⟩ := hrel
    by_cases hlt : k < n
    · rcases HA.out with h0 | ⟨b, off, rfl, hc⟩
      · omega
      rcases HB.out with h0 | ⟨b', off', rfl, hc'⟩
      · omega
      obtain ⟨c0, c1⟩ := hc k hlt
      obtain ⟨c2, c3⟩ := hc' k hlt
      obtain ⟨x, hx⟩ : ∃ x, f k = x := ⟨_, rfl⟩
      rw [hx] at c0 c2
      have hq := neq_same x cur
      have i1 : (k : Int) < (n : Int) := by omega
      clear hc hc' hx
      go_wp2_with fail
      go_quiet (fail)
      go_wp2_with fail
      go_roundw
      case rel => exact ⟨k + 1, _, by omega, by go_num, rfl⟩
      case measure => simp [intOf]; omega
    · obtain rfl : k = n := by omega
      go_wp2_with fail
      go_ret
      exact ⟨rfl, below_drewN w m⟩
end Go.Proofs.YtadehobimlpmcaaDoor
