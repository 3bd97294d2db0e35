/- Equality of ranges, and of two lists of ranges. -/
import Derived.Test.YtiegoffdbhmfbaaGreatDoorSor
namespace Go.Proofs.YtiegoffdbhmfbaaGreatDoor
set_option linter.unusedVariables false
open Go.RowKit

theorem bytes_eq (a b : ByteArray) : (a.toList == b.toList) = decide (a = b) := by
  rw [ByteArray.toList_eq, ByteArray.toList_eq, Bool.eq_iff_iff]
  simp only [beq_iff_eq, decide_eq_true_eq]
  exact ⟨fun h => ByteArray.ext (Array.toList_inj.1 h), fun h => by rw [h]⟩
theorem toList_iff (a b : ByteArray) : a.toList = b.toList ↔ a = b := by
  have := bytes_eq a b
  rw [Bool.eq_iff_iff] at this
  simpa using this
def rgE (a b : Rg) : Bool := decide (a.lo = b.lo) && (decide (a.hi = b.hi) && (decide (a.is = b.is) && decide (a.pr = b.pr)))
theorem rgE_iff (a b : Rg) : rgE a b = true ↔ a = b := by
  obtain ⟨a0, a1, a2, a3⟩ := a
  obtain ⟨b0, b1, b2, b3⟩ := b
  simp [rgE]
theorem fields29 : Tryz.prog.fieldsOf 26 = #[{ name := "Low", type := 9, offset := 0, embedded := false, tag := "", pkgPath := "", byteOffset := 0 }, { name := "High", type := 9, offset := 1, embedded := false, tag := "", pkgPath := "", byteOffset := 16 }, { name := "Issuer", type := 9, offset := 2, embedded := false, tag := "", pkgPath := "", byteOffset := 32 }, { name := "Product", type := 9, offset := 3, embedded := false, tag := "", pkgPath := "", byteOffset := 48 }] := by kernel_rfl
theorem struct29 : Tryz.prog.underlying 26 = some (.struct (Tryz.prog.fieldsOf 26)) := by kernel_rfl
set_option maxRecDepth 100000 in
theorem eq_rg (a b : Rg) (w : World) : (binOp .eql 26 (.agg (rgC a)) (.agg (rgC b))).run Tryz.prog w = .ok (.bool (rgE a b)) w := by
  obtain ⟨a0, a1, a2, a3⟩ := a
  obtain ⟨b0, b1, b2, b3⟩ := b
  unfold rgC rgE
  rw [run_eql_struct]
  rw [run_equalIn_struct _ _ _ _ _ struct29 Tryz.stoodInHeld26, fields29]
  go_simp
  simp only [toList_iff]
  by_cases h1 : a0 = b0 <;> by_cases h2 : a1 = b1 <;> by_cases h3 : a2 = b2 <;> by_cases h4 : a3 = b3 <;> simp [h1, h2, h3, h4]
set_option maxRecDepth 100000 in
theorem neq_rg (a b : Rg) (w : World) : (binOp .neq 26 (.agg (rgC a)) (.agg (rgC b))).run Tryz.prog w = .ok (.bool !(rgE a b)) w := by
  obtain ⟨a0, a1, a2, a3⟩ := a
  obtain ⟨b0, b1, b2, b3⟩ := b
  unfold rgC rgE
  rw [run_neq_struct]
  rw [run_equalIn_struct _ _ _ _ _ struct29 Tryz.stoodInHeld26, fields29]
  go_simp
  simp only [toList_iff]
  by_cases h1 : a0 = b0 <;> by_cases h2 : a1 = b1 <;> by_cases h3 : a2 = b2 <;> by_cases h4 : a3 = b3 <;> simp [h1, h2, h3, h4]
theorem neq_self (a0 a1 a2 a3 : ByteArray) (w : World) : (binOp .neq 26 (.agg #[.string a0, .string a1, .string a2, .string a3]) (.agg #[.string a0, .string a1, .string a2, .string a3])).run Tryz.prog w = .ok (.bool false) w := by
  have := neq_rg ⟨a0, a1, a2, a3⟩ ⟨a0, a1, a2, a3⟩ w
  rw [(rgE_iff _ _).2 rfl] at this
  exact this
set_option maxRecDepth 100000 in
set_option maxHeartbeats 1600000 in
theorem same_any (v u : Value) (l : List Rg) (w : World) (hv : SlR w v l) (hu : SlR w u l) :
    Calls Tryz.prog 12 #[v, u] w fun e w' => e = .returned (.bool true) ∧ Below w.heap.size w w' := by
  obtain ⟨A, c, rfl, ha, hc, hcm, -⟩ := hv.form
  obtain ⟨B, d, rfl, hb, hd, hdm, -⟩ := hu.form
  have HA := Lib.hid ha
  have HB := Lib.hid hb
  unfold maxLen at hcm
  clear ha hb hv hu
  have hnn : ((l.length : Int) != (l.length : Int)) = false := by simp
  go_enter Tryz.func12, Tryz.ntmps12
  go_wp2_with fail
  clear hnn
  go_loopw [5] (fun i wr => ∃ k : Nat, k ≤ l.length ∧ i = .int .i64 k ∧ Hid (Below w.heap.size w wr)) (fun i _ => l.length - (intOf i).toNat)
  case atStart => exact ⟨0, Nat.zero_le _, rfl, Lib.hid (Below.refl _ _)⟩
  case round =>
    obtain ⟨k, hk, rfl, HW⟩ := hrel
    by_cases hlt : k < l.length
    · rcases row_rg HA.out k hlt with ⟨b, off, rfl, hcell⟩
      rcases row_rg HB.out k hlt with ⟨b', off', rfl, hcell'⟩
      obtain ⟨d0, d1, d2, d3⟩ := hcell k hlt
      obtain ⟨e0, e1, e2, e3⟩ := hcell' k hlt
      have c0 := cell_later HW.out d0
      have c1 := cell_later HW.out d1
      have c2 := cell_later HW.out d2
      have c3 := cell_later HW.out d3
      have f0 := cell_later HW.out e0
      have f1 := cell_later HW.out e1
      have f2 := cell_later HW.out e2
      have f3 := cell_later HW.out e3
      have hbl : b < wr.heap.size := World.block_lt_of_cell? wr _ c0
      have hbl' : b' < wr.heap.size := World.block_lt_of_cell? wr _ f0
      have kI : (k : Int) < (l.length : Int) := by omega
      have k0 : (0 : Int) ≤ (k : Int) := by omega
      clear d0 d1 d2 d3 e0 e1 e2 e3 hcell hcell'
      generalize rgAt l k = r at *
      obtain ⟨lo, hi, is, pr⟩ := r
      simp only at c0 c1 c2 c3 f0 f1 f2 f3
      have hne := neq_self lo hi is pr
      go_wp2_with fail
      go_quiet (fail)
      go_wp2_with fail
      go_roundw
      case rel => exact ⟨k + 1, by omega, by go_num, Lib.hid (dNb HW.out _)⟩
      case measure => simp [intOf]; omega
    · obtain rfl : k = l.length := by omega
      go_wp2_with fail
      go_ret
      exact ⟨rfl, HW.out⟩
end Go.Proofs.YtiegoffdbhmfbaaGreatDoor
