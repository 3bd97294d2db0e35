/- The plain mathematics of the calendar: years, months, the days before them, and that a date has one reading; no program. -/
import Derived.WalkKit
import Derived.Lib.Hide
namespace Go.Proofs.YtijceaapfbpfcaaDoor
set_option linter.unusedVariables false

theorem ret_int {k : IntKind} {a b : Int} (h : a = b) : Ending.returned (.int k a) = .returned (.int k b) := by rw [h]
theorem i64_eq {a b : Int} (h : a = b) : Value.int .i64 a = .int .i64 b := by rw [h]
/-- Is it a leap year? -/
def leapB (y : Int) : Bool := decide (y % 4 = 0 ∧ y % 100 ≠ 0 ∨ y % 400 = 0)
def yl (y : Int) : Int := if leapB y then 366 else 365
def ml0 (m : Int) : Int := if m = 2 then 28 else if m = 4 ∨ m = 6 ∨ m = 9 ∨ m = 11 then 30 else 31
/-- The days of a month. -/
def ml (y m : Int) : Int := if m = 2 ∧ leapB y = true then 29 else ml0 m
/-- The days before the year 1970 + n. -/
def dbyN : Nat → Int
  | 0 => 0
  | n + 1 => dbyN n + yl (1970 + n)
def dby (y : Int) : Int := dbyN (y - 1970).toNat
/-- The days of the first n months. -/
def cumN (y : Int) : Nat → Int
  | 0 => 0
  | n + 1 => cumN y n + ml y (1 + n)
def cum (y m : Int) : Int := cumN y (m - 1).toNat

theorem yl_bd (y : Int) : 365 ≤ yl y ∧ yl y ≤ 366 := by unfold yl; split <;> omega
theorem ml0_bd (m : Int) : 28 ≤ ml0 m ∧ ml0 m ≤ 31 := by unfold ml0; split <;> (try split) <;> omega
theorem ml_bd (y m : Int) : 28 ≤ ml y m ∧ ml y m ≤ 31 := by unfold ml; have := ml0_bd m; split <;> omega
theorem dby_0 : dby 1970 = 0 := rfl
theorem dby_succ (y : Int) (h : 1970 ≤ y) : dby (y + 1) = dby y + yl y := by
  unfold dby
  obtain ⟨n, hn⟩ : ∃ n : Nat, y = 1970 + n := ⟨(y - 1970).toNat, by omega⟩
  subst hn
  rw [show (1970 + (n : Int) + 1 - 1970).toNat = n + 1 from by omega, show (1970 + (n : Int) - 1970).toNat = n from by omega]; rfl
theorem cum_1 (y : Int) : cum y 1 = 0 := rfl
theorem cum_succ (y m : Int) (h : 1 ≤ m) : cum y (m + 1) = cum y m + ml y m := by
  unfold cum
  obtain ⟨n, hn⟩ : ∃ n : Nat, m = 1 + n := ⟨(m - 1).toNat, by omega⟩
  subst hn
  rw [show (1 + (n : Int) + 1 - 1).toNat = n + 1 from by omega, show (1 + (n : Int) - 1).toNat = n from by omega]; rfl
theorem dbyN_bd (n : Nat) : 365 * (n : Int) ≤ dbyN n ∧ dbyN n ≤ 366 * (n : Int) := by
  induction n with
  | zero => simp [dbyN]
  | succ n ih => have := yl_bd (1970 + n); simp only [dbyN]; omega
theorem dby_bd (y : Int) (h : 1970 ≤ y) : 365 * (y - 1970) ≤ dby y ∧ dby y ≤ 366 * (y - 1970) := by
  unfold dby; have := dbyN_bd (y - 1970).toNat; omega
theorem dbyN_mono (a b : Nat) (h : a ≤ b) : dbyN a ≤ dbyN b := by
  induction b with
  | zero => obtain rfl : a = 0 := by omega
            exact Int.le_refl _
  | succ b ih =>
    rcases Nat.lt_or_ge a (b + 1) with h1 | h1
    · have := ih (by omega); have := yl_bd (1970 + b); simp only [dbyN]; omega
    · obtain rfl : a = b + 1 := by omega
      exact Int.le_refl _
theorem dby_mono (a b : Int) (h : a ≤ b) : dby a ≤ dby b := dbyN_mono _ _ (by omega)
theorem cumN_bd (y : Int) (n : Nat) : 28 * (n : Int) ≤ cumN y n ∧ cumN y n ≤ 31 * (n : Int) := by
  induction n with
  | zero => simp [cumN]
  | succ n ih => have := ml_bd y (1 + n); simp only [cumN]; omega
theorem cum_bd (y m : Int) (h : 1 ≤ m) : 28 * (m - 1) ≤ cum y m ∧ cum y m ≤ 31 * (m - 1) := by
  unfold cum; have := cumN_bd y (m - 1).toNat; omega
theorem cumN_mono (y : Int) (a b : Nat) (h : a ≤ b) : cumN y a ≤ cumN y b := by
  induction b with
  | zero => obtain rfl : a = 0 := by omega
            exact Int.le_refl _
  | succ b ih =>
    rcases Nat.lt_or_ge a (b + 1) with h1 | h1
    · have := ih (by omega); have := ml_bd y (1 + b); simp only [cumN]; omega
    · obtain rfl : a = b + 1 := by omega
      exact Int.le_refl _
theorem cum_mono (y a b : Int) (h : a ≤ b) : cum y a ≤ cum y b := cumN_mono y _ _ (by omega)
/-- A year's months hold its days. -/
theorem cum_13 (y : Int) : cum y 13 = yl y := by
  show cumN y 12 = yl y
  simp only [cumN]
  unfold ml yl ml0
  cases leapB y <;> simp
/-- y, m, d is the reading of the date n. -/
def Reads (n y m d : Int) : Prop := 1970 ≤ y ∧ 1 ≤ m ∧ m ≤ 12 ∧ 1 ≤ d ∧ d ≤ ml y m ∧ dby y + cum y m + (d - 1) = n
theorem Reads.year {n y m d : Int} (h : Reads n y m d) : dby y ≤ n ∧ n < dby (y + 1) := by
  obtain ⟨h1, h2, h3, h4, h5, h6⟩ := h
  rw [dby_succ y h1, ← cum_13 y]
  have a := cum_bd y m h2
  have b := cum_succ y m h2
  have c := cum_mono y (m + 1) 13 (by omega)
  omega
theorem Reads.one {n y m d y' m' d' : Int} (h : Reads n y m d) (h' : Reads n y' m' d') : y = y' ∧ m = m' ∧ d = d' := by
  have a := h.year
  have b := h'.year
  have hy : y = y' := by
    rcases Int.lt_trichotomy y y' with c | c | c
    · have := dby_mono (y + 1) y' (by omega); omega
    · exact c
    · have := dby_mono (y' + 1) y (by omega); omega
  subst hy
  obtain ⟨h1, h2, h3, h4, h5, h6⟩ := h
  obtain ⟨k1, k2, k3, k4, k5, k6⟩ := h'
  have hm : m = m' := by
    have s1 := cum_succ y m h2
    have s2 := cum_succ y m' k2
    rcases Int.lt_trichotomy m m' with c | c | c
    · have := cum_mono y (m + 1) m' (by omega); omega
    · exact c
    · have := cum_mono y (m' + 1) m (by omega); omega
  subst hm
  exact ⟨rfl, rfl, by omega⟩
theorem dby_2244 : dby 2244 = 100076 := by decide +kernel
theorem dby_2243 : dby 2243 = 99711 := by decide +kernel
theorem Reads.y_le {n y m d : Int} (h : Reads n y m d) (hn : n ≤ 99999) : y ≤ 2243 := by
  have a := h.year
  rcases Int.lt_or_le y 2244 with c | c
  · omega
  · have := dby_mono 2244 y c; rw [dby_2244] at this; omega
end Go.Proofs.YtijceaapfbpfcaaDoor
