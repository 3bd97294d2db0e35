/- The plain mathematics of the checksum layer: the CRC register, the FNV hash, on lists of bytes; no program. -/
import Derived.WalkKit
import Derived.Lib.Hide
namespace Go.Proofs.YthflmdgfenojcaaGreatDoor.C7
set_option linter.unusedVariables false

theorem ret_int {k : IntKind} {a b : Int} (h : a = b) : Ending.returned (.int k a) = .returned (.int k b) := by rw [h]
/-- One step of the CRC register. -/
def crcBit (c : Nat) : Nat := if c % 2 = 1 then (c / 2) ^^^ 3988292384 else c / 2
/-- k steps. -/
def crcBits : Nat → Nat → Nat
  | 0, c => c
  | k + 1, c => crcBits k (crcBit c)
def crcByte (c b : Nat) : Nat := crcBits 8 (c ^^^ b)
def crcReg (c : Nat) (l : List UInt8) : Nat := l.foldl (fun c b => crcByte c b.toNat) c
def crcOf (l : List UInt8) : Nat := crcReg 4294967295 l ^^^ 4294967295

theorem crcBit_odd (c : Nat) (h : ((c : Int) % 2 == 1) = true) : crcBit c = (c / 2) ^^^ 3988292384 := by
  unfold crcBit; rw [if_pos]; simp at h; omega
theorem crcBit_even (c : Nat) (h : ((c : Int) % 2 == 1) = false) : crcBit c = c / 2 := by
  unfold crcBit; rw [if_neg]; simp at h; omega
theorem crcBit_lt (c : Nat) (h : c < 4294967296) : crcBit c < 4294967296 := by
  unfold crcBit
  split
  · exact Nat.xor_lt_two_pow (n := 32) (by omega) (by omega)
  · omega
theorem crcBits_succ (k c : Nat) : crcBits (k + 1) c = crcBit (crcBits k c) := by
  induction k generalizing c with
  | zero => rfl
  | succ k ih => exact ih (crcBit c)
theorem crcBits_lt (k c : Nat) (h : c < 4294967296) : crcBits k c < 4294967296 := by
  induction k generalizing c with
  | zero => exact h
  | succ k ih => exact ih _ (crcBit_lt c h)
theorem crcByte_lt (c : Nat) (b : UInt8) (h : c < 4294967296) : crcByte c b.toNat < 4294967296 :=
  crcBits_lt 8 _ (Nat.xor_lt_two_pow (n := 32) h (by have := b.toNat_lt; omega))
theorem crcReg_lt (l : List UInt8) (c : Nat) (h : c < 4294967296) : crcReg c l < 4294967296 := by
  induction l generalizing c with
  | nil => exact h
  | cons b l ih => exact ih _ (crcByte_lt c b h)
theorem crcReg_snoc (c : Nat) (l : List UInt8) (b : UInt8) : crcReg c (l ++ [b]) = crcByte (crcReg c l) b.toNat := by
  simp [crcReg]

theorem take_snoc (s : ByteArray) (k : Nat) (h : k < s.size) : s.data.toList.take (k + 1) = s.data.toList.take k ++ [s[k]] := by
  rw [List.take_succ_eq_append_getElem (by simpa using h)]; rfl
theorem take_all (s : ByteArray) : s.data.toList.take s.size = s.data.toList := List.take_of_length_le (by simp)

def M64 : Nat := 18446744073709551616
def fnvStep (h b : Nat) : Nat := (1099511628211 * (h ^^^ b)) % M64
def fnv (h : Nat) (l : List UInt8) : Nat := l.foldl (fun h b => fnvStep h b.toNat) h
def H0 : Nat := 14695981039346656037
theorem M64_pos : 0 < M64 := by unfold M64; omega
theorem fnvStep_lt (h b : Nat) : fnvStep h b < M64 := by
  unfold fnvStep
  generalize 1099511628211 * (h ^^^ b) = x
  exact Nat.mod_lt _ M64_pos
theorem fnv_lt (l : List UInt8) (h : Nat) (hh : h < M64) : fnv h l < M64 := by
  induction l generalizing h with
  | nil => exact hh
  | cons b l ih => exact ih _ (fnvStep_lt _ _)
theorem fnv_snoc (h : Nat) (l : List UInt8) (b : UInt8) : fnv h (l ++ [b]) = fnvStep (fnv h l) b.toNat := by
  simp only [fnv, List.foldl_append, List.foldl_cons, List.foldl_nil]
theorem fnv_append (h : Nat) (a b : List UInt8) : fnv h (a ++ b) = fnv (fnv h a) b := by
  simp only [fnv, List.foldl_append]
theorem mulwrap (x : Nat) : IntKind.u64.wrap ((x : Int) * 1099511628211) = ((1099511628211 * x % M64 : Nat) : Int) := by
  rw [IntKind.wrap_u64]; unfold M64; omega
theorem H0_lt : H0 < M64 := by unfold H0 M64; omega
theorem H0_int : (14695981039346656037 : Int) = ((H0 : Nat) : Int) := rfl
theorem and15 (x : Int) : bits .and .u32 x 15 = x % 16 := by
  show IntKind.u32.wrap ((BitVec.ofInt 32 x &&& BitVec.ofInt 32 15).toNat : Int) = _
  rw [BitVec.toNat_and, BitVec.toNat_ofInt, show (BitVec.ofInt 32 15).toNat = 15 from by decide, nat_mask4, IntKind.wrap_u32']
  omega

/-- The eight bytes of a number, the most significant one first. -/
def be8 (h : Nat) : List UInt8 := [h / 72057594037927936 % 256, h / 281474976710656 % 256, h / 1099511627776 % 256, h / 4294967296 % 256, h / 16777216 % 256, h / 65536 % 256, h / 256 % 256, h % 256].map UInt8.ofNat
def be8i (h : Nat) : List Int := [(h : Int) / 72057594037927936 % 256, (h : Int) / 281474976710656 % 256, (h : Int) / 1099511627776 % 256, (h : Int) / 4294967296 % 256, (h : Int) / 16777216 % 256, (h : Int) / 65536 % 256, (h : Int) / 256 % 256, (h : Int) % 256]
theorem be8_i (h : Nat) : (strOfNums (be8i h)).data.toList = be8 h := by
  rw [strOfNums_data]
  simp only [be8i, be8, List.map_cons, List.map_nil]
  congr 1
theorem strOfNums_append (xs ys : List Int) : strOfNums xs ++ strOfNums ys = strOfNums (xs ++ ys) := by
  simp [strOfNums, ByteArray.mk_append_mk]
theorem empty_append (xs : List Int) : (ByteArray.mk #[]) ++ strOfNums xs = strOfNums xs := by
  have := strOfNums_append [] xs
  simpa [strOfNums] using this
def chainOf (h : Nat) (s : List UInt8) : Nat := fnv H0 (be8 h ++ s)

end Go.Proofs.YthflmdgfenojcaaGreatDoor.C7
