/- More plain mathematics of the checksum layer: digits, totals, lists of strings; no program. -/
import Derived.Test.YthflmdgfenojcaaGreatDoorC7Plain
namespace Go.Proofs.YthflmdgfenojcaaGreatDoor.C7
set_option linter.unusedVariables false

/-- The hexadecimal digit of a number below 16. -/
def hexN (d : Nat) : Nat := if d < 10 then 48 + d else 87 + d
def hexB : ByteArray := ⟨#[48, 49, 50, 51, 52, 53, 54, 55, 56, 57, 97, 98, 99, 100, 101, 102]⟩
theorem hex_at (d : Nat) (h : d < (ByteArray.mk #[48, 49, 50, 51, 52, 53, 54, 55, 56, 57, 97, 98, 99, 100, 101, 102]).size) :
    (ByteArray.mk #[48, 49, 50, 51, 52, 53, 54, 55, 56, 57, 97, 98, 99, 100, 101, 102])[d].toNat = hexN d := by
  have hd : d < 16 := h
  have key : ∀ d : Fin 16, ((#[48, 49, 50, 51, 52, 53, 54, 55, 56, 57, 97, 98, 99, 100, 101, 102] : Array UInt8)[d.1]'(d.2)).toNat = hexN d.1 := by decide
  exact key ⟨d, hd⟩
theorem hex_cut (d : Nat) (hd : d < 16) : (ByteArray.mk #[48, 49, 50, 51, 52, 53, 54, 55, 56, 57, 97, 98, 99, 100, 101, 102]).extract d (d + 1) = strOfNums [(hexN d : Int)] := by
  have key : ∀ d : Fin 16, (ByteArray.mk #[48, 49, 50, 51, 52, 53, 54, 55, 56, 57, 97, 98, 99, 100, 101, 102]).extract d.1 (d.1 + 1) = strOfNums [(hexN d.1 : Int)] := by decide
  exact key ⟨d, hd⟩
theorem hex_cut' (x : Nat) : (ByteArray.mk #[48, 49, 50, 51, 52, 53, 54, 55, 56, 57, 97, 98, 99, 100, 101, 102]).extract (x % 16) (x % 16 + 1) = strOfNums [(hexN (x % 16) : Int)] := hex_cut _ (by omega)
theorem append_empty (xs : List Int) : strOfNums xs ++ (ByteArray.mk #[]) = strOfNums xs := by
  have := strOfNums_append xs []
  simpa [strOfNums] using this
theorem hexN_lt (d : Nat) (hd : d < 16) : hexN d < 256 := by unfold hexN; split <;> omega
def sealI (c : Nat) : List Int := [(hexN (c / 268435456 % 16) : Int), (hexN (c / 16777216 % 16) : Int), (hexN (c / 1048576 % 16) : Int), (hexN (c / 65536 % 16) : Int), (hexN (c / 4096 % 16) : Int), (hexN (c / 256 % 16) : Int), (hexN (c / 16 % 16) : Int), (hexN (c % 16) : Int)]
def sealS (c : Nat) : ByteArray := strOfNums (sealI c)
theorem sealS_size (c : Nat) : (sealS c).size = 8 := by simp [sealS, strOfNums_size, sealI]
/-- The value of the last eight bytes, read in decimal; other bytes than digits count 0. -/
def digV (b : UInt8) : Nat := if 48 ≤ b.toNat ∧ b.toNat ≤ 57 then b.toNat - 48 else 0
def valStep (n : Nat) (b : UInt8) : Nat := 10 * n + digV b
def valOf (l : List UInt8) : Nat := (l.drop (l.length - 8)).foldl valStep 0
def totOf (l : List (List UInt8)) : Nat := l.foldl (fun t s => (t + valOf s) % 100000000) 0
theorem valStep_dig (n : Nat) (b : UInt8) (h : 48 ≤ b.toNat) (h2 : b.toNat ≤ 57) : ((valStep n b : Nat) : Int) = (n : Int) * 10 + ((b.toNat : Int) - 48) := by
  unfold valStep digV; rw [if_pos ⟨h, h2⟩]; omega
theorem valStep_other (n : Nat) (b : UInt8) (h : ¬ (48 ≤ b.toNat ∧ b.toNat ≤ 57)) : ((valStep n b : Nat) : Int) = (n : Int) * 10 := by
  unfold valStep digV; rw [if_neg h]; omega
def valTo (l : List UInt8) (m k : Nat) : Nat := ((l.take k).drop m).foldl valStep 0
theorem valTo_start (l : List UInt8) (m : Nat) : valTo l m m = 0 := by
  unfold valTo; rw [List.drop_of_length_le (by simp; omega)]; rfl
theorem valTo_succ (s : ByteArray) (m k : Nat) (hm : m ≤ k) (hk : k < s.size) : valTo s.data.toList m (k + 1) = valStep (valTo s.data.toList m k) s[k] := by
  unfold valTo; rw [take_snoc s k hk, List.drop_append_of_le_length (by simp; omega), List.foldl_append]; rfl
theorem valTo_end (s : ByteArray) : valTo s.data.toList (s.size - 8) s.size = valOf s.data.toList := by
  unfold valTo valOf; rw [take_all]; simp
theorem foldVal_lt (l : List UInt8) (n e : Nat) (hn : n < 10 ^ e) : l.foldl valStep n < 10 ^ (e + l.length) := by
  induction l generalizing n e with
  | nil => simpa using hn
  | cons b l ih =>
    have h1 : valStep n b < 10 ^ (e + 1) := by
      unfold valStep digV; rw [Nat.pow_succ]; split <;> omega
    have := ih (valStep n b) (e + 1) h1
    simp only [List.foldl_cons, List.length_cons]
    rw [show e + (l.length + 1) = e + 1 + l.length from by omega]; exact this
theorem valTo_lt (l : List UInt8) (m k : Nat) (h : k ≤ m + 7) : valTo l m k < 10000000 := by
  have h1 := foldVal_lt ((l.take k).drop m) 0 0 (by simp)
  have h2 : ((l.take k).drop m).length ≤ 7 := by simp; omega
  have h3 : 10 ^ (0 + ((l.take k).drop m).length) ≤ 10 ^ 7 := Nat.pow_le_pow_right (by omega) (by omega)
  unfold valTo; omega
theorem valOf_lt (l : List UInt8) : valOf l < 100000000 := by
  have h1 := foldVal_lt (l.drop (l.length - 8)) 0 0 (by simp)
  have h2 : (l.drop (l.length - 8)).length ≤ 8 := by simp; omega
  have h3 : 10 ^ (0 + (l.drop (l.length - 8)).length) ≤ 10 ^ 8 := Nat.pow_le_pow_right (by omega) (by omega)
  unfold valOf; omega
def totB (l : List ByteArray) : Nat := l.foldl (fun t s => (t + valOf s.data.toList) % 100000000) 0
theorem totB_snoc (l : List ByteArray) (s : ByteArray) : totB (l ++ [s]) = (totB l + valOf s.data.toList) % 100000000 := by
  simp [totB]
theorem totB_lt (l : List ByteArray) : totB l < 100000000 := by
  rcases List.eq_nil_or_concat l with rfl | ⟨l', s, rfl⟩
  · simp [totB]
  · rw [List.concat_eq_append, totB_snoc]; omega
theorem takeB_snoc (l : List ByteArray) (k : Nat) (h : k < l.length) : l.take (k + 1) = l.take k ++ [l.getD k ByteArray.empty] := by
  rw [List.take_succ_eq_append_getElem h]; simp [List.getD, List.getElem?_eq_getElem h]
/-- The slice reads as these strings. -/
def IsStrs (w : World) (a : Option Addr) (l : List ByteArray) : Prop := l.length = 0 ∨ ∃ b off, a = some ⟨b, off, none⟩ ∧ ∀ i, i < l.length → w.cell? ⟨b, off + i, none⟩ = some (.string (l.getD i ByteArray.empty))
end Go.Proofs.YthflmdgfenojcaaGreatDoor.C7
