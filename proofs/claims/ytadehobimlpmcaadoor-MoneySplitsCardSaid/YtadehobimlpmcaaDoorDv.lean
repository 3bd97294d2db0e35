/- The division of a number of 128 bits by one of 64: the two halves' quotients by estimates. No walk. -/
import Derived.IntWalk
namespace Go.Proofs.YtadehobimlpmcaaDoor
set_option linter.unusedVariables false

/-- What holds of an estimate g of the quotient of u * 2^32 + t by v = a * 2^32 + b, where h is what u exceeds g * a by. -/
structure Est (a b u t g h : Nat) : Prop where
  eq : g * a + h = u
  ge : (u * 4294967296 + t) / (a * 4294967296 + b) ≤ g
  hi : g ≤ 4294967297
theorem est_start {a b u t : Nat} (ha : 2147483648 ≤ a) (ha2 : a < 4294967296) (hb : b < 4294967296) (ht : t < 4294967296) (hu : u < a * 4294967296 + b) : Est a b u t (u / a) (u % a) := by
  have hd : u / a * a + u % a = u := by rw [Nat.mul_comm]; exact Nat.div_add_mod u a
  have hm : u % a < a := Nat.mod_lt _ (by omega)
  refine ⟨hd, ?_, ?_⟩
  · apply Nat.le_of_lt_succ
    rw [Nat.div_lt_iff_lt_mul (by omega)]
    have : (u / a + 1) * (a * 4294967296 + b) = u / a * a * 4294967296 + u / a * b + (a * 4294967296 + b) := by
      rw [Nat.add_mul, Nat.one_mul, Nat.mul_add, Nat.mul_assoc]
    rw [Nat.succ_eq_add_one, this]
    generalize u / a * a = x at *
    omega
  · apply Nat.le_of_lt_succ
    rw [Nat.div_lt_iff_lt_mul (by omega)]
    omega
/-- The test says that the estimate is too great. -/
theorem est_next {a b u t g h : Nat} (hE : Est a b u t g h) (ha : 2147483648 ≤ a) (ht : t < 4294967296) (hu : u < a * 4294967296 + b) (hlt : 4294967296 ≤ g ∨ 4294967296 * h + t < g * b) : 1 ≤ g ∧ Est a b u t (g - 1) (h + a) ∧ g - 1 ≤ 4294967296 := by
  have hq : (u * 4294967296 + t) / (a * 4294967296 + b) < g := by
    rcases hlt with h1 | h1
    · refine Nat.lt_of_lt_of_le ?_ h1
      rw [Nat.div_lt_iff_lt_mul (by omega)]
      omega
    · rw [Nat.div_lt_iff_lt_mul (by omega)]
      have e : g * (a * 4294967296 + b) = g * a * 4294967296 + g * b := by rw [Nat.mul_add, Nat.mul_assoc]
      have h2 := hE.eq
      rw [e]
      generalize g * a = x at *
      generalize g * b = y at *
      omega
  have h3 := hE.eq
  have h4 := hE.hi
  have k1 : 1 ≤ g := Nat.lt_of_le_of_lt (Nat.zero_le _) hq
  refine ⟨k1, ⟨?_, Nat.le_sub_one_of_lt hq, by omega⟩, by omega⟩
  obtain ⟨m, rfl⟩ : ∃ m, g = m + 1 := ⟨g - 1, by omega⟩
  rw [Nat.add_mul, Nat.one_mul] at h3
  rw [Nat.add_sub_cancel]; omega
/-- The test says no: it is the quotient. -/
theorem est_stop {a b u t g h : Nat} (hE : Est a b u t g h) (ha : 2147483648 ≤ a) (hn : g * b ≤ 4294967296 * h + t) : g = (u * 4294967296 + t) / (a * 4294967296 + b) := by
  refine Nat.le_antisymm ?_ hE.ge
  rw [Nat.le_div_iff_mul_le (by omega)]
  have e : g * (a * 4294967296 + b) = g * a * 4294967296 + g * b := by rw [Nat.mul_add, Nat.mul_assoc]
  have h2 := hE.eq
  rw [e]
  generalize g * a = x at *
  generalize g * b = y at *
  omega
/-- The rest has outgrown 32 bits: it is the quotient. -/
theorem est_break {a b u t g h : Nat} (hE : Est a b u t g h) (ha : 2147483648 ≤ a) (hb : b < 4294967296) (hg : g ≤ 4294967296) (hh : 4294967296 ≤ h) : g = (u * 4294967296 + t) / (a * 4294967296 + b) := by
  refine est_stop hE ha ?_
  have h1 : g * b ≤ 4294967296 * b := Nat.mul_le_mul_right b hg
  omega
/-- No product of the test outgrows 64 bits. -/
theorem est_small {a b u t g h : Nat} (hE : Est a b u t g h) (hb : b < 4294967296) : g * b < 18446744073709551616 := by
  have h1 : g * b ≤ 4294967297 * b := Nat.mul_le_mul_right b hE.hi
  omega
/-- The remainder of the upper half, as 64 bits have it. -/
theorem half_rem (u t v q : Nat) (hv : 0 < v) (hv2 : v < 18446744073709551616) (hq : q = (u * 4294967296 + t) / v) : (((u * 4294967296 : Int) + t) - q * v) % 18446744073709551616 = ((u * 4294967296 + t) % v : Nat) ∧ (u * 4294967296 + t) % v < v := by
  have h1 := Nat.div_add_mod (u * 4294967296 + t) v
  have h2 := Nat.mod_lt (u * 4294967296 + t) hv
  rw [← hq] at h1
  rw [Nat.mul_comm] at h1
  have h3 : (q : Int) * v = ((q * v : Nat) : Int) := by rw [Int.natCast_mul]
  rw [h3]
  generalize q * v = x at *
  generalize (u * 4294967296 + t) % v = y at *
  exact ⟨by omega, h2⟩
/-- The whole quotient out of its two halves. -/
theorem two_halves (u t1 t0 v q1 q0 r1 : Nat) (hv : 0 < v) (h1 : q1 = (u * 4294967296 + t1) / v) (hr : r1 = (u * 4294967296 + t1) % v) (h0 : q0 = (r1 * 4294967296 + t0) / v) :
    (u * 18446744073709551616 + (t1 * 4294967296 + t0)) / v = q1 * 4294967296 + q0 ∧ (u * 18446744073709551616 + (t1 * 4294967296 + t0)) % v = (r1 * 4294967296 + t0) % v := by
  have e1 := Nat.div_add_mod (u * 4294967296 + t1) v
  have e0 := Nat.div_add_mod (r1 * 4294967296 + t0) v
  rw [← h1, ← hr] at e1
  rw [← h0] at e0
  have e : u * 18446744073709551616 + (t1 * 4294967296 + t0) = (r1 * 4294967296 + t0) % v + v * (q1 * 4294967296 + q0) := by
    rw [Nat.mul_add, ← Nat.mul_assoc]
    generalize v * q1 = x at *
    generalize v * q0 = y at *
    omega
  have hm := Nat.mod_lt (r1 * 4294967296 + t0) hv
  rw [e]
  constructor
  · rw [Nat.add_mul_div_left _ _ hv, Nat.div_eq_of_lt hm, Nat.zero_add]
  · rw [Nat.add_mul_mod_self_left, Nat.mod_eq_of_lt hm]
/-- A number and its divisor moved by the same power. -/
theorem moved (x y s : Nat) (hy : 0 < y) : x * 2 ^ s / (y * 2 ^ s) = x / y ∧ x * 2 ^ s % (y * 2 ^ s) / 2 ^ s = x % y := by
  have hp : 0 < 2 ^ s := Nat.pow_pos (by omega)
  refine ⟨Nat.mul_div_mul_right x y hp, ?_⟩
  rw [Nat.mul_mod_mul_right, Nat.mul_div_cancel _ hp]
/-- The halves of a number of 128 bits moved to the left. -/
theorem moved_halves (hi lo s : Nat) (hs : s ≤ 64) (hlo : lo < 18446744073709551616) : (hi * 18446744073709551616 + lo) * 2 ^ s = (hi * 2 ^ s + lo / 2 ^ (64 - s)) * 18446744073709551616 + lo * 2 ^ s % 18446744073709551616 := by
  have hp : 2 ^ (64 - s) * 2 ^ s = 18446744073709551616 := by rw [← Nat.pow_add, Nat.sub_add_cancel hs]
  have e : lo * 2 ^ s / 18446744073709551616 = lo / 2 ^ (64 - s) := by
    rw [← hp]; exact Nat.mul_div_mul_right _ _ (Nat.pow_pos (by omega))
  have h1 := Nat.div_add_mod (lo * 2 ^ s) 18446744073709551616
  rw [e] at h1
  rw [Nat.add_mul]
  have h2 : hi * 18446744073709551616 * 2 ^ s = hi * 2 ^ s * 18446744073709551616 := by rw [Nat.mul_assoc, Nat.mul_comm 18446744073709551616, ← Nat.mul_assoc]
  rw [h2]
  generalize hi * 2 ^ s = x at *
  generalize lo / 2 ^ (64 - s) = z at *
  generalize lo * 2 ^ s = y at *
  omega
theorem or_add (a b s : Nat) (h : b < 2 ^ s) : a * 2 ^ s ||| b = a * 2 ^ s + b := by
  have := Nat.shiftLeft_add_eq_or_of_lt h a
  rw [Nat.shiftLeft_eq] at this; exact this.symm
end Go.Proofs.YtadehobimlpmcaaDoor
