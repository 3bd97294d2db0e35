/- A change of bits within 32 consecutive ones changes the checksum: the register is linear, and its step loses nothing; no program. -/
import Derived.Test.YthflmdgfenojcaaGreatDoorC7Plain2
namespace Go.Proofs.YthflmdgfenojcaaGreatDoor.C7
set_option linter.unusedVariables false
theorem xor_half (a b : Nat) : (a ^^^ b) / 2 = a / 2 ^^^ b / 2 := by
  have := Nat.shiftRight_xor_distrib (a := a) (b := b) (i := 1)
  simpa [Nat.shiftRight_eq_div_pow] using this
theorem xor_odd (a b : Nat) : (a ^^^ b) % 2 = (a % 2 + b % 2) % 2 := by
  have h := Nat.xor_mod_two_pow (a := a) (b := b) (n := 1)
  have ha : a % 2 = 0 ∨ a % 2 = 1 := by omega
  have hb : b % 2 = 0 ∨ b % 2 = 1 := by omega
  simp only [Nat.pow_one] at h
  rw [h]
  rcases ha with ha | ha <;> rcases hb with hb | hb <;> simp [ha, hb]
theorem xor_mul (k x y : Nat) : 2 ^ k * (x ^^^ y) = 2 ^ k * x ^^^ 2 ^ k * y := by
  have := Nat.shiftLeft_xor_distrib (a := x) (b := y) (i := k)
  simpa [Nat.shiftLeft_eq, Nat.mul_comm] using this
theorem crcBit_xor (a b : Nat) : crcBit (a ^^^ b) = crcBit a ^^^ crcBit b := by
  unfold crcBit
  rw [xor_half, xor_odd]
  have ha : a % 2 = 0 ∨ a % 2 = 1 := by omega
  have hb : b % 2 = 0 ∨ b % 2 = 1 := by omega
  generalize (3988292384 : Nat) = p
  generalize a / 2 = x
  generalize b / 2 = y
  rcases ha with ha | ha <;> rcases hb with hb | hb <;> simp only [ha, hb]
  · simp
  · simp [Nat.xor_assoc]
  · simp [Nat.xor_assoc, Nat.xor_comm y p]
  · simp only [show ((1 + 1) % 2 = 1) = False from by simp, if_false, if_true]
    rw [Nat.xor_assoc, ← Nat.xor_assoc p, Nat.xor_comm p y, Nat.xor_assoc, Nat.xor_self, Nat.xor_zero]
theorem crcBits_xor (k a b : Nat) : crcBits k (a ^^^ b) = crcBits k a ^^^ crcBits k b := by
  induction k generalizing a b with
  | zero => rfl
  | succ k ih => show crcBits k (crcBit (a ^^^ b)) = _; rw [crcBit_xor, ih]; rfl
theorem crcBits_add (j k a : Nat) : crcBits (j + k) a = crcBits j (crcBits k a) := by
  induction k generalizing a with
  | zero => rfl
  | succ k ih => exact ih (crcBit a)
theorem crcBits_shift (k x : Nat) : crcBits k (2 ^ k * x) = x := by
  induction k generalizing x with
  | zero => simp [crcBits]
  | succ k ih =>
    rw [crcBits_succ, show 2 ^ (k + 1) * x = 2 ^ k * (2 * x) from by rw [Nat.pow_succ, Nat.mul_assoc], ih]
    unfold crcBit; rw [if_neg (by omega)]; omega
theorem crcBit_zero (x : Nat) (h : x < 4294967296) (h0 : crcBit x = 0) : x = 0 := by
  unfold crcBit at h0
  split at h0
  · have hx : x / 2 = 3988292384 := by
      have := congrArg (fun y => y ^^^ 3988292384) h0
      simpa only [Nat.xor_assoc, Nat.xor_self, Nat.xor_zero, Nat.zero_xor] using this
    omega
  · omega
theorem crcBits_zero (k x : Nat) (h : x < 4294967296) (h0 : crcBits k x = 0) : x = 0 := by
  induction k generalizing x with
  | zero => exact h0
  | succ k ih => exact crcBit_zero x h (ih (crcBit x) (crcBit_lt x h) h0)
theorem crcBits_of_zero (k : Nat) : crcBits k 0 = 0 := by
  induction k with
  | zero => rfl
  | succ k ih => exact ih
/-- The bytes as one number, the first byte the least significant. -/
def numOf : List UInt8 → Nat
  | [] => 0
  | b :: l => b.toNat ^^^ 2 ^ 8 * numOf l
theorem crcReg_num (l : List UInt8) (c : Nat) : crcReg c l = crcBits (8 * l.length) (c ^^^ numOf l) := by
  induction l generalizing c with
  | nil => simp [crcReg, crcBits, numOf]
  | cons b l ih =>
    show crcReg (crcByte c b.toNat) l = _
    rw [ih, List.length_cons, show 8 * (l.length + 1) = 8 * l.length + 8 from by omega, crcBits_add, numOf, ← Nat.xor_assoc, crcBits_xor 8 (c ^^^ b.toNat), crcBits_shift]
    rfl
theorem crcReg_diff (l m : List UInt8) (hl : l.length = m.length) (s B : Nat) (hB : B < 4294967296) (hs : s ≤ 8 * l.length) (hn : numOf m = numOf l ^^^ 2 ^ s * B) :
    crcOf m = crcOf l ↔ B = 0 := by
  have h1 : crcReg 4294967295 m = crcReg 4294967295 l ^^^ crcBits (8 * l.length - s) B := by
    rw [crcReg_num, crcReg_num, ← hl, hn, ← Nat.xor_assoc, crcBits_xor _ (4294967295 ^^^ numOf l)]
    congr 1
    have := crcBits_add (8 * l.length - s) s (2 ^ s * B)
    rw [crcBits_shift, show 8 * l.length - s + s = 8 * l.length from by omega] at this
    exact this
  unfold crcOf
  rw [h1]
  generalize crcReg 4294967295 l = r
  constructor
  · intro h
    have h2 : crcBits (8 * l.length - s) B = 0 := by
      have h3 := congrArg (fun x => r ^^^ (x ^^^ 4294967295)) h
      simp only [Nat.xor_assoc, Nat.xor_self, Nat.xor_zero] at h3
      rw [← Nat.xor_assoc, Nat.xor_self, Nat.zero_xor] at h3
      exact h3
    exact crcBits_zero _ B hB h2
  · rintro rfl
    rw [crcBits_of_zero, Nat.xor_zero]
theorem numOf_set (l : List UInt8) (i j : Nat) (hi : i < l.length) (b : UInt8) (hb : b.toNat = (l[i]).toNat ^^^ 2 ^ j) :
    numOf (l.set i b) = numOf l ^^^ 2 ^ (8 * i + j) := by
  induction l generalizing i with
  | nil => simp at hi
  | cons x l ih =>
    cases i with
    | zero =>
      simp only [List.set_cons_zero, numOf, List.getElem_cons_zero] at hb ⊢
      rw [hb, Nat.xor_assoc, Nat.xor_comm (2 ^ j), ← Nat.xor_assoc]; simp
    | succ i =>
      simp only [List.set_cons_succ, numOf, List.getElem_cons_succ] at hb ⊢
      rw [ih i (by simpa using hi) hb, xor_mul, ← Nat.xor_assoc, show 8 * (i + 1) + j = 8 + (8 * i + j) from by omega, Nat.pow_add 2 8]
theorem numOf_set' (l : List UInt8) (i : Nat) (hi : i < l.length) (b : UInt8) (y : Nat) (hb : b.toNat = (l[i]).toNat ^^^ y) :
    numOf (l.set i b) = numOf l ^^^ 2 ^ (8 * i) * y := by
  induction l generalizing i with
  | nil => simp at hi
  | cons x l ih =>
    cases i with
    | zero =>
      simp only [List.set_cons_zero, numOf, List.getElem_cons_zero] at hb ⊢
      rw [hb, Nat.xor_assoc, Nat.xor_comm y, ← Nat.xor_assoc]; simp
    | succ i =>
      simp only [List.set_cons_succ, numOf, List.getElem_cons_succ] at hb ⊢
      rw [ih i (by simpa using hi) hb, xor_mul, ← Nat.xor_assoc, show 8 * (i + 1) = 8 + (8 * i) from by omega, Nat.pow_add 2 8, Nat.mul_assoc]

theorem hexN_inj (a b : Nat) (ha : a < 16) (hb : b < 16) (h : hexN a = hexN b) : a = b := by
  unfold hexN at h; split at h <;> split at h <;> omega
theorem sealS_inj (c d : Nat) (hc : c < 4294967296) (hd : d < 4294967296) (h : sealS c = sealS d) : c = d := by
  have h1 := congrArg (fun s : ByteArray => s.data.toList) h
  simp only [sealS, strOfNums_data, sealI, List.map_cons, List.map_nil, Int.toNat_natCast, List.cons.injEq, and_true] at h1
  have key : ∀ a b : Nat, a < 16 → b < 16 → UInt8.ofNat (hexN a) = UInt8.ofNat (hexN b) → a = b := by
    intro a b ha hb hab
    have h2 := congrArg UInt8.toNat hab
    rw [UInt8.toNat_ofNat_of_lt' (hexN_lt a ha), UInt8.toNat_ofNat_of_lt' (hexN_lt b hb)] at h2
    exact hexN_inj a b ha hb h2
  obtain ⟨a1, a2, a3, a4, a5, a6, a7, a8⟩ := h1
  have b1 := key _ _ (by omega) (by omega) a1
  have b2 := key _ _ (by omega) (by omega) a2
  have b3 := key _ _ (by omega) (by omega) a3
  have b4 := key _ _ (by omega) (by omega) a4
  have b5 := key _ _ (by omega) (by omega) a5
  have b6 := key _ _ (by omega) (by omega) a6
  have b7 := key _ _ (by omega) (by omega) a7
  have b8 := key _ _ (by omega) (by omega) a8
  omega
/-- The sum of the values. -/
def sumB (l : List ByteArray) : Nat := (l.map fun s => valOf s.data.toList).sum
theorem totB_sum (l : List ByteArray) : totB l = sumB l % 100000000 := by
  have key : ∀ (l : List ByteArray) (t : Nat), l.foldl (fun t s => (t + valOf s.data.toList) % 100000000) t % 100000000 = (t + sumB l) % 100000000 := by
    intro l
    induction l with
    | nil => intro t; simp [sumB]
    | cons s l ih =>
      intro t
      simp only [List.foldl_cons]
      rw [ih]
      simp only [sumB, List.map_cons, List.sum_cons]
      omega
  have h := key l 0
  have h2 := totB_lt l
  unfold totB at h2 ⊢
  omega
theorem sumB_append (a b : List ByteArray) : sumB (a ++ b) = sumB a + sumB b := by simp [sumB]
theorem sumB_reverse (a : List ByteArray) : sumB a.reverse = sumB a := by
  induction a with
  | nil => rfl
  | cons x a ih => rw [List.reverse_cons, sumB_append, ih]; simp [sumB]; omega
theorem totB_reverse (a : List ByteArray) : totB a.reverse = totB a := by rw [totB_sum, totB_sum, sumB_reverse]
theorem totB_cut (l : List ByteArray) (n : Nat) : (totB (l.take n) + totB (l.drop n)) % 100000000 = totB l := by
  rw [totB_sum, totB_sum, totB_sum]
  conv => rhs; rw [← List.take_append_drop n l, sumB_append]
  omega
end Go.Proofs.YthflmdgfenojcaaGreatDoor.C7
