/- Part of the proof over this seat. -/
import Derived.WalkKit
import Derived.Lib.Hide
import Derived.Lib.ItoaNum
import Derived.Lib.ItoaMem
namespace Go.Proofs.YthflmdgfenojcaaGreatDoor
set_option linter.unusedVariables false
/-- The last k digits of n in base b. -/
def pad (b : Nat) (f : Nat → UInt8) : Nat → Nat → List UInt8
  | 0, _ => []
  | k + 1, n => pad b f k (n / b) ++ [f (n % b)]
theorem pad_length (b : Nat) (f : Nat → UInt8) (k n : Nat) : (pad b f k n).length = k := by
  induction k generalizing n with
  | zero => rfl
  | succ k ih => simp [pad, ih]
theorem pad_zero (b : Nat) (f : Nat → UInt8) (k : Nat) : pad b f k 0 = List.replicate k (f 0) := by
  induction k with
  | zero => rfl
  | succ k ih => rw [pad, Nat.zero_div, ih, Nat.zero_mod, List.replicate_succ']
/-- D n are the digits of n without zeros ahead. -/
def IsDigs (b : Nat) (f : Nat → UInt8) (D : Nat → List UInt8) : Prop := ∀ n, D n = if n < b then [f n] else D (n / b) ++ [f (n % b)]
theorem digs_pos {b : Nat} {f : Nat → UInt8} {D : Nat → List UInt8} (h : IsDigs b f D) (n : Nat) : 1 ≤ (D n).length := by
  rw [h n]; split <;> simp
theorem pad_short {b : Nat} {f : Nat → UInt8} {D : Nat → List UInt8} (h : IsDigs b f D) (hb : 0 < b) (k n : Nat) (hk : (D n).length ≤ k) : List.replicate (k - (D n).length) (f 0) ++ D n = pad b f k n := by
  induction k generalizing n with
  | zero => have := digs_pos h n; omega
  | succ k ih =>
    by_cases hn : n < b
    · have e : D n = [f n] := by rw [h n, if_pos hn]
      rw [e, pad, Nat.div_eq_of_lt hn, Nat.mod_eq_of_lt hn, pad_zero]; simp
    · have e : D n = D (n / b) ++ [f (n % b)] := by rw [h n, if_neg hn]
      rw [e, List.length_append, List.length_singleton] at hk
      rw [e, pad, ← ih (n / b) (by omega), List.length_append, List.length_singleton, Nat.add_sub_add_right, List.append_assoc]
def d10 (n : Nat) : UInt8 := UInt8.ofNat (48 + n)
def d16 (n : Nat) : UInt8 := if n < 10 then UInt8.ofNat (48 + n) else UInt8.ofNat (87 + n)
def hexAux : Nat → Nat → List UInt8
  | 0, _ => []
  | k + 1, n => if n < 16 then [d16 n] else hexAux k (n / 16) ++ [d16 (n % 16)]
/-- The hexadecimal digits of a number. -/
def hexDigits (n : Nat) : List UInt8 := hexAux (n + 1) n
theorem hexAux_enough (k n : Nat) (h : n < k) : ∀ j, n < j → hexAux k n = hexAux j n := by
  induction k generalizing n with
  | zero => omega
  | succ k ih =>
    intro j hj
    cases j with
    | zero => omega
    | succ j =>
      rw [hexAux, hexAux]
      by_cases hn : n < 16
      · rw [if_pos hn, if_pos hn]
      · rw [if_neg hn, if_neg hn, ih (n / 16) (by omega) j (by omega)]
theorem hex_digs : IsDigs 16 d16 hexDigits := by
  intro n
  unfold hexDigits
  rw [hexAux]
  by_cases hn : n < 16
  · rw [if_pos hn, if_pos hn]
  · rw [if_neg hn, if_neg hn, hexAux_enough n (n / 16) (by omega) (n / 16 + 1) (by omega)]
theorem hex_len (k n : Nat) (hk : 1 ≤ k) (h : n < 16 ^ k) : (hexDigits n).length ≤ k := by
  induction k generalizing n with
  | zero => omega
  | succ k ih =>
    rw [hex_digs n]
    by_cases hn : n < 16
    · rw [if_pos hn]; simp
    · rw [if_neg hn, List.length_append, List.length_singleton]
      rcases Nat.eq_zero_or_pos k with h0 | h0
      · subst h0; simp at h; omega
      · have := ih (n / 16) h0 (by rw [Nat.pow_succ] at h; omega)
        omega
/-- The eight hexadecimal digits of a checksum. -/
def text8 (n : Nat) : List UInt8 := pad 16 d16 8 n
theorem text8_hex (n : Nat) (h : n < 4294967296) : List.replicate (8 - (hexDigits n).length) 48 ++ hexDigits n = text8 n :=
  pad_short hex_digs (by omega) 8 n (hex_len 8 n (by omega) (by omega))
theorem text8_len (n : Nat) : (text8 n).length = 8 := pad_length _ _ _ _
/-- Is a byte a hexadecimal digit in lower case? -/
def lowB (c : Nat) : Bool := decide (48 ≤ c ∧ c ≤ 57) || decide (97 ≤ c ∧ c ≤ 102)
def hval (c : Nat) : Nat := if c ≤ 57 then c - 48 else c - 87
theorem d16_low (n : Nat) (h : n < 16) : lowB (d16 n).toNat = true ∧ hval (d16 n).toNat = n := by
  have key : ∀ n : Fin 16, lowB (d16 n.1).toNat = true ∧ hval (d16 n.1).toNat = n.1 := by decide +kernel
  exact key ⟨n, h⟩
def lowHex (l : List UInt8) : Bool := l.all fun c => lowB c.toNat
theorem lowHex_snoc (l : List UInt8) (c : UInt8) : lowHex (l ++ [c]) = (lowHex l && lowB c.toNat) := by simp [lowHex]
theorem pad_low (k n : Nat) : lowHex (pad 16 d16 k n) = true := by
  induction k generalizing n with
  | zero => rfl
  | succ k ih => rw [pad, lowHex_snoc, ih, (d16_low (n % 16) (Nat.mod_lt _ (by omega))).1]; rfl
end Go.Proofs.YthflmdgfenojcaaGreatDoor
