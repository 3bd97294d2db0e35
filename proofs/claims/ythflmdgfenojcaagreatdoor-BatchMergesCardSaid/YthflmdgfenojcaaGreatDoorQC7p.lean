/- Part of the proof over this seat. -/
import Derived.WalkKit
import Derived.Lib.Hide
namespace Go.Proofs.YthflmdgfenojcaaGreatDoor.C7
set_option linter.unusedVariables false
theorem ret_int {k : IntKind} {a b : Int} (h : a = b) : Ending.returned (.int k a) = .returned (.int k b) := by rw [h]
/-- One step of the CRC register. -/
def crcBit (c : Nat) : Nat := if c % 2 = 1 then (c / 2) ^^^ 3988292384 else c / 2
/-- k steps. -/
def crcBits : Nat → Nat → Nat
  | 0, c => c
  | k + 1, c => crcBits k (crcBit c)
def crcByte (c b : Nat) : Nat := crcBits 8 (c ^^^ b)
def crcReg (c : Nat) (l : List UInt8) : Nat := l.foldl (fun c b => crcByte c b.toNat) c
def crcOf (l : List UInt8) : Nat := crcReg 4294967295 l ^^^ 4294967295
theorem crcBit_odd (c : Nat) (h : ((c : Int) % 2 == 1) = true) : crcBit c = (c / 2) ^^^ 3988292384 := by
  unfold crcBit; rw [if_pos]; simp at h; omega
theorem crcBit_even (c : Nat) (h : ((c : Int) % 2 == 1) = false) : crcBit c = c / 2 := by
  unfold crcBit; rw [if_neg]; simp at h; omega
theorem crcBit_lt (c : Nat) (h : c < 4294967296) : crcBit c < 4294967296 := by
  unfold crcBit
  split
  · exact Nat.xor_lt_two_pow (n := 32) (by omega) (by omega)
  · omega
theorem crcBits_succ (k c : Nat) : crcBits (k + 1) c = crcBit (crcBits k c) := by
  induction k generalizing c with
  | zero => rfl
  | succ k ih => exact ih (crcBit c)
theorem crcBits_lt (k c : Nat) (h : c < 4294967296) : crcBits k c < 4294967296 := by
  induction k generalizing c with
  | zero => exact h
  | succ k ih => exact ih _ (crcBit_lt c h)
theorem crcByte_lt (c : Nat) (b : UInt8) (h : c < 4294967296) : crcByte c b.toNat < 4294967296 :=
  crcBits_lt 8 _ (Nat.xor_lt_two_pow (n := 32) h (by have := b.toNat_lt; omega))
theorem crcReg_lt (l : List UInt8) (c : Nat) (h : c < 4294967296) : crcReg c l < 4294967296 := by
  induction l generalizing c with
  | nil => exact h
  | cons b l ih => exact ih _ (crcByte_lt c b h)
theorem crcReg_snoc (c : Nat) (l : List UInt8) (b : UInt8) : crcReg c (l ++ [b]) = crcByte (crcReg c l) b.toNat := by
  simp [crcReg]
theorem take_snoc (s : ByteArray) (k : Nat) (h : k < s.size) : s.data.toList.take (k + 1) = s.data.toList.take k ++ [s[k]] := by
  rw [List.take_succ_eq_append_getElem (by simpa using h)]; rfl
theorem take_all (s : ByteArray) : s.data.toList.take s.size = s.data.toList := List.take_of_length_le (by simp)
def H0 : Nat := 14695981039346656037
theorem and15 (x : Int) : bits .and .u32 x 15 = x % 16 := by
  show IntKind.u32.wrap ((BitVec.ofInt 32 x &&& BitVec.ofInt 32 15).toNat : Int) = _
  rw [BitVec.toNat_and, BitVec.toNat_ofInt, show (BitVec.ofInt 32 15).toNat = 15 from by decide, nat_mask4, IntKind.wrap_u32']
  omega
end Go.Proofs.YthflmdgfenojcaaGreatDoor.C7
namespace Go.Proofs.YthflmdgfenojcaaGreatDoor.C7
set_option linter.unusedVariables false
/-- The hexadecimal digit of a number below 16. -/
def hexN (d : Nat) : Nat := if d < 10 then 48 + d else 87 + d
/-- The value of the last eight bytes, read in decimal; other bytes than digits count 0. -/
def digV (b : UInt8) : Nat := if 48 ≤ b.toNat ∧ b.toNat ≤ 57 then b.toNat - 48 else 0
def valStep (n : Nat) (b : UInt8) : Nat := 10 * n + digV b
def valOf (l : List UInt8) : Nat := (l.drop (l.length - 8)).foldl valStep 0
def totOf (l : List (List UInt8)) : Nat := l.foldl (fun t s => (t + valOf s) % 100000000) 0
theorem valStep_dig (n : Nat) (b : UInt8) (h : 48 ≤ b.toNat) (h2 : b.toNat ≤ 57) : ((valStep n b : Nat) : Int) = (n : Int) * 10 + ((b.toNat : Int) - 48) := by
  unfold valStep digV; rw [if_pos ⟨h, h2⟩]; omega
theorem valStep_other (n : Nat) (b : UInt8) (h : ¬ (48 ≤ b.toNat ∧ b.toNat ≤ 57)) : ((valStep n b : Nat) : Int) = (n : Int) * 10 := by
  unfold valStep digV; rw [if_neg h]; omega
def valTo (l : List UInt8) (m k : Nat) : Nat := ((l.take k).drop m).foldl valStep 0
theorem valTo_start (l : List UInt8) (m : Nat) : valTo l m m = 0 := by
  unfold valTo; rw [List.drop_of_length_le (by simp; omega)]; rfl
theorem valTo_succ (s : ByteArray) (m k : Nat) (hm : m ≤ k) (hk : k < s.size) : valTo s.data.toList m (k + 1) = valStep (valTo s.data.toList m k) s[k] := by
  unfold valTo; rw [take_snoc s k hk, List.drop_append_of_le_length (by simp; omega), List.foldl_append]; rfl
theorem valTo_end (s : ByteArray) : valTo s.data.toList (s.size - 8) s.size = valOf s.data.toList := by
  unfold valTo valOf; rw [take_all]; simp
theorem foldVal_lt (l : List UInt8) (n e : Nat) (hn : n < 10 ^ e) : l.foldl valStep n < 10 ^ (e + l.length) := by
  induction l generalizing n e with
  | nil => simpa using hn
  | cons b l ih =>
    have h1 : valStep n b < 10 ^ (e + 1) := by
      unfold valStep digV; rw [Nat.pow_succ]; split <;> omega
    have := ih (valStep n b) (e + 1) h1
    simp only [List.foldl_cons, List.length_cons]
    rw [show e + (l.length + 1) = e + 1 + l.length from by omega]; exact this
theorem valTo_lt (l : List UInt8) (m k : Nat) (h : k ≤ m + 7) : valTo l m k < 10000000 := by
  have h1 := foldVal_lt ((l.take k).drop m) 0 0 (by simp)
  have h2 : ((l.take k).drop m).length ≤ 7 := by simp; omega
  have h3 : 10 ^ (0 + ((l.take k).drop m).length) ≤ 10 ^ 7 := Nat.pow_le_pow_right (by omega) (by omega)
  unfold valTo; omega
theorem valOf_lt (l : List UInt8) : valOf l < 100000000 := by
  have h1 := foldVal_lt (l.drop (l.length - 8)) 0 0 (by simp)
  have h2 : (l.drop (l.length - 8)).length ≤ 8 := by simp; omega
  have h3 : 10 ^ (0 + (l.drop (l.length - 8)).length) ≤ 10 ^ 8 := Nat.pow_le_pow_right (by omega) (by omega)
  unfold valOf; omega
def totB (l : List ByteArray) : Nat := l.foldl (fun t s => (t + valOf s.data.toList) % 100000000) 0
theorem totB_snoc (l : List ByteArray) (s : ByteArray) : totB (l ++ [s]) = (totB l + valOf s.data.toList) % 100000000 := by
  simp [totB]
theorem totB_lt (l : List ByteArray) : totB l < 100000000 := by
  rcases List.eq_nil_or_concat l with rfl | ⟨l', s, rfl⟩
  · simp [totB]
  · rw [List.concat_eq_append, totB_snoc]; omega
theorem takeB_snoc (l : List ByteArray) (k : Nat) (h : k < l.length) : l.take (k + 1) = l.take k ++ [l.getD k ByteArray.empty] := by
  rw [List.take_succ_eq_append_getElem h]; simp [List.getD, List.getElem?_eq_getElem h]
/-- The slice reads as these strings. -/
def IsStrs (w : World) (a : Option Addr) (l : List ByteArray) : Prop := l.length = 0 ∨ ∃ b off, a = some ⟨b, off, none⟩ ∧ ∀ i, i < l.length → w.cell? ⟨b, off + i, none⟩ = some (.string (l.getD i ByteArray.empty))
end Go.Proofs.YthflmdgfenojcaaGreatDoor.C7
namespace Go.Proofs.YthflmdgfenojcaaGreatDoor.C7
set_option linter.unusedVariables false
/-- The sum of the values. -/
def sumB (l : List ByteArray) : Nat := (l.map fun s => valOf s.data.toList).sum
theorem totB_sum (l : List ByteArray) : totB l = sumB l % 100000000 := by
  have key : ∀ (l : List ByteArray) (t : Nat), l.foldl (fun t s => (t + valOf s.data.toList) % 100000000) t % 100000000 = (t + sumB l) % 100000000 := by
    intro l
    induction l with
    | nil => intro t; simp [sumB]
    | cons s l ih =>
      intro t
      simp only [List.foldl_cons]
      rw [ih]
      simp only [sumB, List.map_cons, List.sum_cons]
      omega
  have h := key l 0
  have h2 := totB_lt l
  unfold totB at h2 ⊢
  omega
end Go.Proofs.YthflmdgfenojcaaGreatDoor.C7
