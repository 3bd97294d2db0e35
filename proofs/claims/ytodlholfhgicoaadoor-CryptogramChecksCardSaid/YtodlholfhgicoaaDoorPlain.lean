/- The plain mathematics of the evidence layer: names, the FNV hash; no program. -/
import Derived.WalkKit
import Derived.Lib.Hide
namespace Go.Proofs.YtodlholfhgicoaaDoor
set_option linter.unusedVariables false

theorem ret_int {k : IntKind} {a b : Int} (h : a = b) : Ending.returned (.int k a) = .returned (.int k b) := by rw [h]
theorem i64_eq {a b : Int} (h : a = b) : Value.int .i64 a = .int .i64 b := by rw [h]
theorem take_snoc (s : ByteArray) (k : Nat) (h : k < s.size) : s.data.toList.take (k + 1) = s.data.toList.take k ++ [s[k]] := by
  rw [List.take_succ_eq_append_getElem (by simpa using h)]; rfl
theorem take_all (s : ByteArray) : s.data.toList.take s.size = s.data.toList := List.take_of_length_le (by simp)

def M64 : Nat := 18446744073709551616
def fnvStep (h b : Nat) : Nat := (1099511628211 * (h ^^^ b)) % M64
def fnv (h : Nat) (l : List UInt8) : Nat := l.foldl (fun h b => fnvStep h b.toNat) h
def H0 : Nat := 14695981039346656037
theorem M64_pos : 0 < M64 := by unfold M64; omega
theorem fnvStep_lt (h b : Nat) : fnvStep h b < M64 := by
  unfold fnvStep
  generalize 1099511628211 * (h ^^^ b) = x
  exact Nat.mod_lt _ M64_pos
theorem fnv_lt (l : List UInt8) (h : Nat) (hh : h < M64) : fnv h l < M64 := by
  induction l generalizing h with
  | nil => exact hh
  | cons b l ih => exact ih _ (fnvStep_lt _ _)
theorem fnv_snoc (h : Nat) (l : List UInt8) (b : UInt8) : fnv h (l ++ [b]) = fnvStep (fnv h l) b.toNat := by
  simp only [fnv, List.foldl_append, List.foldl_cons, List.foldl_nil]
theorem fnv_append (h : Nat) (a b : List UInt8) : fnv h (a ++ b) = fnv (fnv h a) b := by
  simp only [fnv, List.foldl_append]
theorem mulwrap (x : Nat) : IntKind.u64.wrap ((x : Int) * 1099511628211) = ((1099511628211 * x % M64 : Nat) : Int) := by
  rw [IntKind.wrap_u64]; unfold M64; omega
theorem H0_lt : H0 < M64 := by unfold H0 M64; omega
theorem H0_int : (14695981039346656037 : Int) = ((H0 : Nat) : Int) := rfl

def letB (c : Nat) : Bool := decide (97 ≤ c ∧ c ≤ 122) || decide (65 ≤ c ∧ c ≤ 90)
def digB (c : Nat) : Bool := decide (48 ≤ c ∧ c ≤ 57)
def wrdB (c : Nat) : Bool := letB c || digB c || c == 95
/-- A name: 1 to 16 letters, digits and underscores, of which the first is a letter. -/
def nameB (l : List UInt8) : Bool := decide (1 ≤ l.length) && decide (l.length ≤ 16) && letB (l.getD 0 0).toNat && l.all (fun b => wrdB b.toNat)
theorem wrd_lt (c : Nat) (h : wrdB c = true) : c < 128 := by
  simp [wrdB, letB, digB] at h
  omega
theorem name_no (l : List UInt8) (k : Nat) (hk : k < l.length) (h : wrdB (l[k]).toNat = false) : nameB l = false := by
  have : (l.all (fun b => wrdB b.toNat)) = false := by
    rw [List.all_eq_false]; exact ⟨l[k], List.getElem_mem hk, by simp [h]⟩
  simp [nameB, this]
theorem name_yes (l : List UInt8) (h1 : 1 ≤ l.length) (h2 : l.length ≤ 16) (h3 : letB (l.getD 0 0).toNat = true) (h4 : ∀ i, (hi : i < l.length) → wrdB (l[i]).toNat = true) : nameB l = true := by
  have : l.all (fun b => wrdB b.toNat) = true := by
    rw [List.all_eq_true]
    intro b hb
    obtain ⟨i, hi, rfl⟩ := List.getElem_of_mem hb
    exact h4 i hi
  unfold nameB; rw [this, h3]; simp [h1, h2]
end Go.Proofs.YtodlholfhgicoaaDoor
