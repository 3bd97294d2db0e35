/- The plain laws of business days: counts add up, and enough business days follow each date. -/
import Derived.Test.YtijceaapfbpfcaaDoorNew
namespace Go.Proofs.YtijceaapfbpfcaaDoor
set_option linter.unusedVariables false
open Go.RowKit

theorem cntN_add (l : List Int) (d : Int) (m n : Nat) : cntN l d (m + n) = cntN l d m + cntN l (d + m) n := by
  induction n with
  | zero => rfl
  | succ n ih =>
    show cntN l d (m + n) + (if bus l (d + (m + n : Nat)) then 1 else 0) = cntN l d m + (cntN l (d + m) n + (if bus l (d + m + n) then 1 else 0))
    rw [ih, show d + ((m + n : Nat) : Int) = d + m + n by omega]; omega
theorem cnt_split (l : List Int) (a b c : Int) (h1 : a ≤ b) (h2 : b ≤ c) : cnt l a b + cnt l b c = cnt l a c := by
  unfold cnt
  have e : (c - a).toNat = (b - a).toNat + (c - b).toNat := by omega
  rw [e, cntN_add, show a + ((b - a).toNat : Int) = b by omega]
theorem cnt_one (l : List Int) (a : Int) : cnt l a (a + 1) = if bus l a then 1 else 0 := by
  unfold cnt
  rw [show (a + 1 - a).toNat = 1 by omega]
  show 0 + (if bus l (a + 0) then 1 else 0) = _
  rw [Int.add_zero, Nat.zero_add]
theorem cntN_none (l : List Int) (d : Int) (n : Nat) (h : ∀ y, d ≤ y → y < d + n → bus l y = false) : cntN l d n = 0 := by
  induction n with
  | zero => rfl
  | succ n ih =>
    show cntN l d n + (if bus l (d + n) then 1 else 0) = 0
    rw [ih (fun y a b => h y a (by omega)), h (d + n) (by omega) (by omega)]; rfl
theorem cnt_none (l : List Int) (a b : Int) (h : ∀ y, a ≤ y → y < b → bus l y = false) : cnt l a b = 0 :=
  cntN_none l a _ (fun y h1 h2 => h y h1 (by omega))
/-- Weekdays, and holidays, among n dates. -/
def wkN (d : Int) : Nat → Nat
  | 0 => 0
  | n + 1 => wkN d n + (if (d + n + 3) % 7 < 5 then 1 else 0)
def holN (l : List Int) (d : Int) : Nat → Nat
  | 0 => 0
  | n + 1 => holN l d n + (if d + n ∈ l then 1 else 0)
theorem wkN_add (d : Int) (m n : Nat) : wkN d (m + n) = wkN d m + wkN (d + m) n := by
  induction n with
  | zero => rfl
  | succ n ih =>
    show wkN d (m + n) + (if (d + (m + n : Nat) + 3) % 7 < 5 then 1 else 0) = wkN d m + (wkN (d + m) n + (if (d + m + n + 3) % 7 < 5 then 1 else 0))
    rw [ih, show d + ((m + n : Nat) : Int) = d + m + n by omega]; omega
theorem wkN_7 (d : Int) : wkN d 7 = 5 := by
  simp only [wkN]
  have h := Int.emod_nonneg (d + 3) (show (7 : Int) ≠ 0 by omega)
  have h2 := Int.emod_lt_of_pos (d + 3) (show (0 : Int) < 7 by omega)
  generalize hr : (d + 3) % 7 = r at h h2
  have k : ∀ j : Nat, j < 7 → (d + j + 3) % 7 = (r + j) % 7 := fun j _ => by omega
  rw [k 0 (by omega), k 1 (by omega), k 2 (by omega), k 3 (by omega), k 4 (by omega), k 5 (by omega), k 6 (by omega)]
  have hc : r = 0 ∨ r = 1 ∨ r = 2 ∨ r = 3 ∨ r = 4 ∨ r = 5 ∨ r = 6 := by omega
  rcases hc with rfl | rfl | rfl | rfl | rfl | rfl | rfl <;> decide
theorem wkN_week (d : Int) (k : Nat) : wkN d (7 * k) = 5 * k := by
  induction k with
  | zero => rfl
  | succ k ih => rw [show 7 * (k + 1) = 7 * k + 7 by omega, wkN_add, ih, wkN_7]; omega
def oneN (x d : Int) : Nat → Nat
  | 0 => 0
  | n + 1 => oneN x d n + (if d + n = x then 1 else 0)
theorem oneN_le (x d : Int) (n : Nat) : oneN x d n ≤ 1 ∧ (x < d ∨ d + n ≤ x → oneN x d n = 0) := by
  induction n with
  | zero => exact ⟨by simp [oneN], fun _ => rfl⟩
  | succ n ih =>
    simp only [oneN]
    by_cases h : d + n = x
    · rw [ih.2 (.inr (by omega)), if_pos h]; exact ⟨by omega, fun hh => by omega⟩
    · rw [if_neg h]; exact ⟨by omega, fun hh => by rw [ih.2 (by omega)]⟩
theorem holN_cons (x : Int) (l : List Int) (d : Int) (n : Nat) : holN (x :: l) d n ≤ holN l d n + oneN x d n := by
  induction n with
  | zero => simp [holN]
  | succ n ih =>
    simp only [holN, oneN, List.mem_cons]
    by_cases h : d + n = x
    · rw [if_pos (.inl h), if_pos h]; omega
    · by_cases h2 : d + n ∈ l
      · rw [if_pos (.inr h2), if_pos h2]; omega
      · rw [if_neg (by simp [h, h2]), if_neg h2]; omega
theorem holN_nil (d : Int) (n : Nat) : holN [] d n = 0 := by
  induction n with
  | zero => rfl
  | succ n ih => simp [holN, ih]
theorem holN_le (l : List Int) (d : Int) (n : Nat) : holN l d n ≤ l.length := by
  induction l with
  | nil => simp [holN_nil]
  | cons x l ih =>
    have h1 := holN_cons x l d n
    have h2 := (oneN_le x d n).1
    simp only [List.length_cons]; omega
theorem cntN_ge (l : List Int) (d : Int) (n : Nat) (h0 : 0 ≤ d) (h1 : d + n ≤ 100000) : wkN d n ≤ cntN l d n + holN l d n := by
  induction n with
  | zero => exact Nat.le_refl _
  | succ n ih =>
    have ih := ih (by omega)
    simp only [wkN, cntN, holN]
    by_cases hw : (d + n + 3) % 7 < 5
    · have hd : 0 ≤ d + (n : Int) ∧ d + (n : Int) ≤ 99999 := by omega
      rw [if_pos hw, bus_yes l (d + n) hd (by rw [wkd_yes _ hd]; exact hw)]
      by_cases hm : d + n ∈ l
      · simp [hm]; omega
      · simp [hm]; omega
    · rw [if_neg hw]; omega
/-- Enough business days follow. -/
theorem cnt_many (l : List Int) (d : Int) (hl : l.length ≤ 400) (h0 : 0 ≤ d) (h1 : d ≤ 97999) : 260 ≤ cnt l (d + 1) (d + 925) := by
  have a := cntN_ge l (d + 1) 924 (by omega) (by omega)
  have b := holN_le l (d + 1) 924
  have c := wkN_week (d + 1) 132
  rw [show 7 * 132 = 924 from rfl] at c
  unfold cnt
  rw [show (d + 925 - (d + 1)).toNat = 924 by omega]
  omega
/-- x is the k-th business day behind d, or d itself (k = 0). -/
def Nth (l : List Int) (d : Int) (k : Nat) (x : Int) : Prop := d ≤ x ∧ x ≤ d + 924 ∧ cnt l (d + 1) (x + 1) = k ∧ (0 < k → bus l x = true)
theorem nth_zero (l : List Int) (d : Int) : Nth l d 0 d := ⟨by omega, by omega, by unfold cnt; rw [show (d + 1 - (d + 1)).toNat = 0 by omega]; rfl, fun h => by omega⟩
theorem nth_next (l : List Int) (d : Int) (k : Nat) (x y : Int) (hl : l.length ≤ 400) (h0 : 0 ≤ d) (h1 : d ≤ 97999) (hk : k < 260) (h : Nth l d k x)
    (hxy : x + 1 ≤ y) (hy : bus l y = true) (hn : ∀ z, x + 1 ≤ z → z < y → bus l z = false) : Nth l d (k + 1) y := by
  obtain ⟨a1, a2, a3, a4⟩ := h
  have hm := cnt_many l d hl h0 h1
  have hy2 : y ≤ d + 924 := by
    apply Classical.byContradiction
    intro hc
    have e := cnt_split l (d + 1) (x + 1) (d + 925) (by omega) (by omega)
    rw [a3, cnt_none l (x + 1) (d + 925) (fun z p q => hn z p (by omega))] at e
    omega
  refine ⟨by omega, hy2, ?_, fun _ => hy⟩
  have e1 := cnt_split l (d + 1) (x + 1) (y + 1) (by omega) (by omega)
  have e2 := cnt_split l (x + 1) y (y + 1) hxy (by omega)
  rw [cnt_none l (x + 1) y hn, cnt_one, hy] at e2
  simp at e2
  omega
theorem nth_some (l : List Int) (d : Int) (k : Nat) (x : Int) (hl : l.length ≤ 400) (h0 : 0 ≤ d) (h1 : d ≤ 97999) (hk : k < 260) (h : Nth l d k x)
    (hn : ∀ z, x + 1 ≤ z → z ≤ 99999 → bus l z = false) : False := by
  obtain ⟨a1, a2, a3, a4⟩ := h
  have hm := cnt_many l d hl h0 h1
  have e := cnt_split l (d + 1) (x + 1) (d + 925) (by omega) (by omega)
  rw [a3, cnt_none l (x + 1) (d + 925) (fun z p q => hn z p (by omega))] at e
  omega
theorem nth_pos (l : List Int) (d : Int) (k : Nat) (x : Int) (h : Nth l d (k + 1) x) : d + 1 ≤ x := by
  obtain ⟨a1, a2, a3, a4⟩ := h
  rcases Int.lt_or_eq_of_le a1 with c | c
  · omega
  · subst c
    unfold cnt at a3
    rw [show (d + 1 - (d + 1)).toNat = 0 by omega] at a3
    simp [cntN] at a3
theorem nth_one (l : List Int) (d : Int) (k : Nat) (x y : Int) (h : Nth l d (k + 1) x) (h' : Nth l d (k + 1) y) : x = y := by
  have p := nth_pos l d k x h
  have q := nth_pos l d k y h'
  obtain ⟨a1, a2, a3, a4⟩ := h
  obtain ⟨b1, b2, b3, b4⟩ := h'
  have step : ∀ u v : Int, d + 1 ≤ u → u < v → bus l v = true → cnt l (d + 1) (u + 1) < cnt l (d + 1) (v + 1) := by
    intro u v hu huv hv
    have e1 := cnt_split l (d + 1) (u + 1) v (by omega) (by omega)
    have e2 := cnt_split l (d + 1) v (v + 1) (by omega) (by omega)
    rw [cnt_one, hv] at e2
    simp at e2
    omega
  rcases Int.lt_trichotomy x y with c | c | c
  · have := step x y p c (b4 (by omega)); omega
  · exact c
  · have := step y x q c (a4 (by omega)); omega
theorem nth_count (l : List Int) (d : Int) (k : Nat) (x : Int) (h : Nth l d (k + 1) x) : cnt l (d + 1) x = k := by
  have p := nth_pos l d k x h
  obtain ⟨a1, a2, a3, a4⟩ := h
  have e := cnt_split l (d + 1) x (x + 1) (by omega) (by omega)
  rw [cnt_one, a4 (by omega)] at e
  simp at e
  omega
theorem nth_lt (l : List Int) (d : Int) (k : Nat) (x y : Int) (h : Nth l d (k + 1) x) (h' : Nth l d (k + 2) y) : x < y := by
  have p := nth_pos l d k x h
  have q := nth_pos l d (k + 1) y h'
  obtain ⟨a1, a2, a3, a4⟩ := h
  obtain ⟨b1, b2, b3, b4⟩ := h'
  apply Classical.byContradiction
  intro hc
  have e := cnt_split l (d + 1) (y + 1) (x + 1) (by omega) (by omega)
  omega
theorem nth_between (l : List Int) (d : Int) (k : Nat) (x y : Int) (h : Nth l d (k + 1) x) (h' : Nth l d (k + 2) y) : cnt l x y = 1 := by
  have p := nth_pos l d k x h
  have c := nth_lt l d k x y h h'
  have e1 := nth_count l d k x h
  have e2 := nth_count l d (k + 1) y h'
  have e := cnt_split l (d + 1) x y (by omega) (by omega)
  omega
end Go.Proofs.YtijceaapfbpfcaaDoor
