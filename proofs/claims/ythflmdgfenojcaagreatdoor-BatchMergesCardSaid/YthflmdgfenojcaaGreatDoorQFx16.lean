/- Part of the proof over this seat. -/
import Derived.Test.YthflmdgfenojcaaGreatDoorChecked
import Derived.WalkLawsBesides
import Derived.WalkSpells
import Derived.Lib.Hide
import Derived.Lib.ItoaWalk
import Derived.BigCall
import Derived.Test.YthflmdgfenojcaaGreatDoorQNbr
import Derived.Test.YthflmdgfenojcaaGreatDoorQHx
namespace Go.Proofs.YthflmdgfenojcaaGreatDoor
set_option linter.unusedVariables false
open Go.RowKit
set_option maxRecDepth 1000000 in
set_option maxHeartbeats 3200000 in
theorem pow2_16 (w : World) : Calls Tryz.prog 191 #[.int .i64 16] w fun e w' => e = .returned (.bool true) ∧ w = w' := by
  have hx : bits .and .i64 16 15 = 0 := by decide +kernel
  go_enter Tryz.func191, Tryz.ntmps191
  go_wp2
  go_ret
  exact ⟨rfl, rfl⟩
set_option maxRecDepth 1000000 in
set_option maxHeartbeats 3200000 in
theorem tz64_16 (w : World) (hc : w.cell? ⟨7, 15, none⟩ = some (.int .u8 4)) : Calls Tryz.prog 207 #[.int .u64 16] w fun e w' => e = .returned (.int .i64 4) ∧ w = w' := by
  have hx : IntKind.u64.wrap (bits .and .u64 16 (IntKind.u64.wrap (-16)) * 285870213051353865) / 288230376151711744 = 15 := by decide +kernel
  go_enter Tryz.func207, Tryz.ntmps207
  go_wp2
  go_ret
  exact ⟨rfl, rfl⟩
set_option maxRecDepth 1000000 in
set_option maxHeartbeats 3200000 in
theorem tz_16 (w : World) (hc : w.cell? ⟨7, 15, none⟩ = some (.int .u8 4)) : Calls Tryz.prog 192 #[.int .u64 16] w fun e w' => e = .returned (.int .i64 4) ∧ w = w' := by
  have h := Lib.hid (tz64_16 w hc)
  go_enter Tryz.func192, Tryz.ntmps192
  go_wp2_with fail
  refine h.out.mono ?_
  rintro e w' ⟨rfl, rfl⟩
  go_wp2
  go_ret
  exact ⟨rfl, rfl⟩
/-- Behind k rounds: the number x is left, the last k cells hold the digits l. -/
structure Bits16 (n x k : Nat) (cs : Array Value) (l : List UInt8) : Prop where
  size : cs.size = 65
  len : l.length = k
  digs : hexDigits n = hexDigits x ++ l
  le : x * 16 ^ k ≤ n
  pos : k = 0 ∨ 1 ≤ x
  cell : ∀ j, (hj : j < l.length) → cs[65 - k + j]? = some (.int .u8 (l[j].toNat : Int))
theorem bits16_start (n : Nat) : Bits16 n n 0 Tryz.zeroCells206 [] := ⟨by kernel_rfl, rfl, by simp, by simp, .inl rfl, fun j hj => absurd hj (Nat.not_lt_zero _)⟩
theorem bits16_x {n x k : Nat} {cs : Array Value} {l : List UInt8} (h : Bits16 n x k cs l) (hn : n < 18446744073709551616) : x < 18446744073709551616 :=
  Nat.lt_of_le_of_lt (Nat.le_trans (Nat.le_mul_of_pos_right _ (Nat.pow_pos (by omega))) h.le) hn
theorem bits16_k {n x k : Nat} {cs : Array Value} {l : List UInt8} (h : Bits16 n x k cs l) (hn : n < 18446744073709551616) : k ≤ 15 := by
  rcases Nat.lt_or_ge k 16 with hk | hk
  · omega
  · have h1 : 1 ≤ x := by rcases h.pos with h0 | h0 <;> omega
    have h2 : 16 ^ 16 ≤ 16 ^ k := Nat.pow_le_pow_right (by omega) hk
    have h3 := Nat.le_trans (Nat.le_mul_of_pos_left (16 ^ k) h1) h.le
    omega
theorem and15 (x : Nat) (hx : x < 18446744073709551616) : bits .and .u64 (x : Int) 15 = ((x % 16 : Nat) : Int) := by
  rw [show (15 : Int) = ((15 : Nat) : Int) from rfl, u64_and_nat x 15 hx (by omega), Nat.and_two_pow_sub_one_eq_mod x 4]
theorem dig36' : ∀ x : Fin 16, (Lib.digits36.data.toList.getD x.1 0).toNat = (d16 x.1).toNat := by decide +kernel
theorem dig36 (x : Nat) (hx : x < 16) : (Lib.digits36[x]'(by rw [Lib.digits36_size]; omega)).toNat = (d16 x).toNat := by
  rw [← dig36' ⟨x, hx⟩]
  have : x < Lib.digits36.data.toList.length := by have := Lib.digits36_size; simp; omega
  rw [List.getD_eq_getElem?_getD, List.getElem?_eq_getElem this]
  rfl
theorem slice65 (w : World) (k : Nat) (hk : k ≤ 15) : ∀ W, (Instr.sliceAt 206 (.pointer (some ⟨w.heap.size, 0, none⟩)) (some (.int .i64 ((64 - k : Nat) : Int))) none none).run Tryz.prog W = .ok (.slice (some ⟨w.heap.size, 64 - k, none⟩) (k + 1) (k + 1)) W := fun W => by
  have hal : Tryz.prog.arrayLen 206 = 65 := by simp [Program.arrayLen, Tryz.underlying206]
  rw [run_sliceAt_array_l W 206 ⟨w.heap.size, 0, none⟩ (by simp [Program.arrayLen, Program.elem, Tryz.underlying206]) .i64 ((64 - k : Nat) : Int) (by omega) (by rw [hal]; omega)]
  go_simp
  exact ⟨by omega, by omega⟩
theorem bits16_step {n x k : Nat} {cs : Array Value} {l : List UInt8} (h : Bits16 n x k cs l) (hk : k ≤ 15) (c : UInt8) : ∀ j, (hj : j < (c :: l).length) → (cs.setIfInBounds (64 - k) (.int .u8 (c.toNat : Int)))[64 - k + j]? = some (.int .u8 ((c :: l)[j].toNat : Int)) := by
  intro j hj
  have hsz := h.size
  cases j with
  | zero =>
    rw [Nat.add_zero, Array.getElem?_setIfInBounds, if_pos rfl, if_pos (by omega)]; rfl
  | succ j =>
    have := h.cell j (by simpa using hj)
    rw [Array.getElem?_setIfInBounds, if_neg (by omega), show 64 - k + (j + 1) = 65 - k + j by omega, this]
    rfl
theorem bits16_next {n x k : Nat} {cs : Array Value} {l : List UInt8} (h : Bits16 n x k cs l) (hk : k ≤ 15) (hx : 16 ≤ x) : Bits16 n (x / 16) (k + 1) (cs.setIfInBounds (64 - k) (.int .u8 ((d16 (x % 16)).toNat : Int))) (d16 (x % 16) :: l) := by
  refine ⟨by simp [h.size], by rw [List.length_cons, h.len], ?_, ?_, .inr (by omega), ?_⟩
  · rw [h.digs, hex_digs x, if_neg (by omega), List.append_assoc]; rfl
  · have h1 : x / 16 * 16 ≤ x := Nat.div_mul_le_self x 16
    have h2 := Nat.le_trans (Nat.mul_le_mul_right (16 ^ k) h1) h.le
    rw [Nat.pow_succ', ← Nat.mul_assoc]; exact h2
  · intro j hj
    rw [show 65 - (k + 1) + j = 64 - k + j by omega]
    exact bits16_step h hk _ j hj
theorem conv65 (w : World) (n x k : Nat) (cs : Array Value) (l : List UInt8) (h : Bits16 n x k cs l) (hk : k ≤ 15) (hx : x < 16) :
    (convert 80 9 (.slice (some ⟨w.heap.size, 64 - k, none⟩) (k + 1) (k + 1))).run Tryz.prog (w.alloc (.cells (cs.setIfInBounds (64 - k) (.int .u8 ((d16 x).toNat : Int))) 206)) = .ok (.string ⟨(hexDigits n).toArray⟩) (w.alloc (.cells (cs.setIfInBounds (64 - k) (.int .u8 ((d16 x).toNat : Int))) 206)) := by
  have e : hexDigits n = d16 x :: l := by rw [h.digs, hex_digs x, if_pos hx]; rfl
  have hl : (d16 x :: l).length = k + 1 := by rw [List.length_cons, h.len]
  have := run_convert_bytes_back (P := Tryz.prog) (w.alloc (.cells (cs.setIfInBounds (64 - k) (.int .u8 ((d16 x).toNat : Int))) 206)) 80 9 5 ⟨w.heap.size, 64 - k, none⟩ (k + 1) (d16 x :: l) Tryz.underlying80 Tryz.underlying5 Tryz.underlying9 (fun j hj => by
    rw [Lib.add_plain, World.cell?_alloc_new]
    exact bits16_step h hk (d16 x) j hj)
  rw [hl] at this
  rw [e]; exact this
set_option maxRecDepth 1000000 in
set_option maxHeartbeats 3200000 in
theorem fb16_any (n : Nat) (w : World) (hc : w.cell? ⟨7, 15, none⟩ = some (.int .u8 4)) (hn : n < 18446744073709551616) :
    Calls Tryz.prog 168 #[.slice none 0 0, .int .u64 n, .int .i64 16, .bool false, .bool false] w fun e w' => e = .returned (.tuple #[.slice none 0 0, .string ⟨(hexDigits n).toArray⟩]) ∧ Below w.heap.size w w' := by
  have hp := Lib.hid pow2_16
  have ht := Lib.hid tz_16
  go_enter Tryz.func168, Tryz.ntmps168
  go_name_bytes_deep 40 PN hPN
  clear hPN
  go_name_bytes_deep 30 DG hDG
  have eDG : DG = Lib.digits36 := by rw [← hDG]; decide +kernel
  subst eDG
  clear hDG
  go_wp2_with fail
  refine (hp.out _).mono ?_
  rintro e w' ⟨rfl, rfl⟩
  go_wp2_with fail
  refine (ht.out _ ((World.cell?_alloc_old _ _ _ (Nat.ne_of_lt (World.block_lt_of_cell? w _ hc))).trans hc)).mono ?_
  rintro e w' ⟨rfl, rfl⟩
  go_wp2_with fail
  go_loopw [1, 13] (fun a i wr => ∃ (x k : Nat) (cs : Array Value) (l : List UInt8), a = .int .u64 x ∧ i = .int .i64 ((65 : Int) - k) ∧ wr = w.alloc (.cells cs 206) ∧ Hid (Bits16 n x k cs l)) (fun a _ _ => (intOf a).toNat)
  case atStart => exact ⟨n, 0, _, [], rfl, rfl, rfl, Lib.hid (bits16_start n)⟩
  case round =>
    obtain ⟨x, k, cs, l, rfl, rfl, rfl, hb⟩ := hrel
    have hk := Lib.hid (bits16_k hb.out hn)
    have hx64 := Lib.hid (bits16_x hb.out hn)
    have h1 : wrap64 (65 - (k : Int) - 1) = ((64 - k : Nat) : Int) := by have := hk.out; unfold wrap64; omega
    obtain ⟨v0, hv0⟩ : ∃ v0, cs[64 - k]? = some v0 := ⟨cs[64 - k]'(by rw [hb.out.size]; omega), Array.getElem?_eq_getElem _⟩
    by_cases hx : x < 16
    · have hd : (Lib.digits36[x]'(by rw [Lib.digits36_size]; omega)).toNat = (d16 x).toNat := dig36 x hx
      have hlt : x < Lib.digits36.size := by rw [Lib.digits36_size]; omega
      have hsl := slice65 w k hk.out
      have hcv := conv65 w n x k cs l hb.out hk.out hx
      go_wp2_with fail
      go_ret2
      exact ⟨rfl, (Below.refl _ _).alloc (Nat.le_refl _) _⟩
    · have hd : (Lib.digits36[x % 16]'(by rw [Lib.digits36_size]; omega)).toNat = (d16 (x % 16)).toNat := dig36 (x % 16) (by omega)
      have hand : bits .and .u64 (x : Int) 15 = ((x % 16 : Nat) : Int) := and15 x hx64.out
      have hlt : x % 16 < Lib.digits36.size := by rw [Lib.digits36_size]; omega
      have hst := Lib.hid (bits16_step hb.out hk.out (d16 (x % 16)))
      go_wp2_with fail
      go_roundw
      case rel => exact ⟨x / 16, k + 1, _, d16 (x % 16) :: l, by go_num, by have := hk.out; go_num, rfl, Lib.hid (bits16_next hb.out hk.out (by omega))⟩
      case measure => simp [intOf]; omega
set_option maxRecDepth 1000000 in
set_option maxHeartbeats 3200000 in
theorem ifuint16_any (n : Nat) (w : World) (hc : w.cell? ⟨7, 15, none⟩ = some (.int .u8 4)) (hn : n < 18446744073709551616) :
    Calls Tryz.prog 159 #[.int .u64 n, .int .i64 16] w fun e w' => e = .returned (.string ⟨(hexDigits n).toArray⟩) ∧ Below w.heap.size w w' := by
  have hb := Lib.hid (fb16_any n w hc hn)
  go_enter Tryz.func159, Tryz.ntmps159
  go_wp2_with fail
  refine hb.out.mono ?_
  rintro e w' ⟨rfl, hbb⟩
  have HB := Lib.hid hbb
  clear hbb
  go_wp2_with fail
  go_ret
  exact ⟨rfl, HB.out⟩
set_option maxRecDepth 1000000 in
set_option maxHeartbeats 3200000 in
theorem fuint16_any (n : Nat) (w : World) (hc : w.cell? ⟨7, 15, none⟩ = some (.int .u8 4)) (hn : n < 18446744073709551616) :
    Calls Tryz.prog 124 #[.int .u64 n, .int .i64 16] w fun e w' => e = .returned (.string ⟨(hexDigits n).toArray⟩) ∧ Below w.heap.size w w' := by
  have hb := Lib.hid (ifuint16_any n w hc hn)
  go_enter Tryz.func124, Tryz.ntmps124
  go_wp2_with fail
  refine hb.out.mono ?_
  rintro e w' ⟨rfl, hbb⟩
  have HB := Lib.hid hbb
  clear hbb
  go_wp2_with fail
  go_ret
  exact ⟨rfl, HB.out⟩
end Go.Proofs.YthflmdgfenojcaaGreatDoor
