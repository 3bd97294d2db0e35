/- What Marginal and Fee answer, by recursion on the tiers. No walk. -/
import Derived.Test.YtfhiepcjkocnlaaPlain
namespace Go.Proofs.Ytfhiepcjkocnlaa
set_option linter.unusedVariables false

/-- The price of the n-th record: that of the last tier that begins at or below it. -/
def margL : List Tr → Int → Int → Int
  | [], n, p => p
  | x :: l, n, p => if x.f ≤ n then margL l n x.p else p
/-- The last record of the first tier of a list. -/
def lastT (c : Int) : List Tr → Int
  | [] => c
  | y :: _ => min c (y.f - 1)
/-- The prices of the records 1 to c, added to s. -/
def feeS : List Tr → Int → Int → Int
  | [], c, s => s
  | x :: l, c, s => if x.f ≤ c then feeS l c (s + (lastT c l - x.f + 1) * x.p) else s
theorem drop_at (l : List Tr) (k : Nat) (hk : k < l.length) : l.drop k = l.getD k default :: l.drop (k + 1) := by
  rw [getD_at l k hk]; exact List.drop_eq_getElem_cons hk
theorem marg_step (l : List Tr) (n p : Int) (k : Nat) (hk : k < l.length) (h : (l.getD k default).f ≤ n) : margL (l.drop k) n p = margL (l.drop (k + 1)) n (l.getD k default).p := by
  rw [drop_at l k hk, margL, if_pos h]
theorem marg_stop (l : List Tr) (n p : Int) (k : Nat) (hk : k < l.length) (h : ¬ (l.getD k default).f ≤ n) : margL (l.drop k) n p = p := by
  rw [drop_at l k hk, margL, if_neg h]
theorem marg_end (l : List Tr) (n p : Int) : margL (l.drop l.length) n p = p := by rw [List.drop_length]; rfl
theorem fee_step (l : List Tr) (c s : Int) (k : Nat) (hk : k < l.length) (h : (l.getD k default).f ≤ c) : feeS (l.drop k) c s = feeS (l.drop (k + 1)) c (s + (lastT c (l.drop (k + 1)) - (l.getD k default).f + 1) * (l.getD k default).p) := by
  rw [drop_at l k hk, feeS, if_pos h]
theorem fee_stop (l : List Tr) (c s : Int) (k : Nat) (hk : k < l.length) (h : ¬ (l.getD k default).f ≤ c) : feeS (l.drop k) c s = s := by
  rw [drop_at l k hk, feeS, if_neg h]
theorem fee_end (l : List Tr) (c s : Int) : feeS (l.drop l.length) c s = s := by rw [List.drop_length]; rfl
theorem last_next (l : List Tr) (c : Int) (k : Nat) (hk : k + 1 < l.length) : lastT c (l.drop (k + 1)) = min c ((l.getD (k + 1) default).f - 1) := by
  rw [drop_at l (k + 1) hk]; rfl
theorem last_end (l : List Tr) (c : Int) (k : Nat) (hk : ¬ k + 1 < l.length) : lastT c (l.drop (k + 1)) = c := by
  rw [List.drop_eq_nil_of_le (by omega)]; rfl
def margE (l : List Tr) (n : Int) : Int := if chkE l = 0 then (if n < 1 ∨ 1000000000 < n then 4 else 0) else chkE l
def margV (l : List Tr) (n : Int) : Int := if margE l n = 0 then margL l n 0 else 0
def feeR (l : List Tr) (c : Int) : Int := (feeS l c 0 + 50).tdiv 100
def feeE (l : List Tr) (c : Int) : Int := if chkE l = 0 then (if c < 0 ∨ 1000000000 < c then 4 else if 4503599627370496 < feeR l c then 4 else 0) else chkE l
def feeV (l : List Tr) (c : Int) : Int := if feeE l c = 0 then feeR l c else 0
/-- One record more costs its price: for tiers that ascend strictly from 1 on. -/
def ascT : List Tr → Prop
  | [] => True
  | [_] => True
  | x :: y :: l => x.f < y.f ∧ ascT (y :: l)
theorem feeS_add (l : List Tr) (c s t : Int) : feeS l c (s + t) = feeS l c s + t := by
  induction l generalizing s with
  | nil => rfl
  | cons x l ih =>
    rw [feeS, feeS]
    split
    · rw [← ih]; congr 1; omega
    · rfl
theorem margL_low (l : List Tr) (n p : Int) (h : ∀ x ∈ l.head?, n < x.f) : margL l n p = p := by
  cases l with
  | nil => rfl
  | cons x l => rw [margL, if_neg (by have := h x (by simp); omega)]
theorem feeS_low (l : List Tr) (c s : Int) (h : ∀ x ∈ l.head?, c < x.f) : feeS l c s = s := by
  cases l with
  | nil => rfl
  | cons x l => rw [feeS, if_neg (by have := h x (by simp); omega)]
theorem fee_next (l : List Tr) (h : ascT l) (c s p : Int) (hp : ∀ x ∈ l.head?, x.f ≤ c + 1) (hl : l ≠ []) : feeS l (c + 1) s = feeS l c s + margL l (c + 1) p := by
  induction l generalizing s p with
  | nil => exact absurd rfl hl
  | cons x l ih =>
    have hx : x.f ≤ c + 1 := hp x (by simp)
    rw [feeS, feeS, margL, if_pos hx, if_pos hx]
    cases l with
    | nil =>
      by_cases h1 : x.f ≤ c
      · rw [if_pos h1]
        simp only [lastT, feeS, margL]
        rw [show c + 1 - x.f + 1 = (c - x.f + 1) + 1 by omega, Int.add_mul]; omega
      · rw [if_neg h1]
        have hxf : x.f = c + 1 := by omega
        simp only [lastT, feeS, margL]
        rw [hxf, show c + 1 - (c + 1) + 1 = 1 by omega, Int.one_mul]
    | cons y l =>
      obtain ⟨hxy, ha⟩ := h
      by_cases h1 : x.f ≤ c
      · rw [if_pos h1]
        by_cases h2 : y.f ≤ c + 1
        · have e1 : lastT (c + 1) (y :: l) = y.f - 1 := by rw [lastT]; omega
          have e2 : lastT c (y :: l) = y.f - 1 := by rw [lastT]; omega
          rw [e1, e2]
          exact ih ha _ _ (fun z hz => by simp at hz; subst hz; exact h2) (by simp)
        · have e1 : lastT (c + 1) (y :: l) = c + 1 := by rw [lastT]; omega
          have e2 : lastT c (y :: l) = c := by rw [lastT]; omega
          rw [e1, e2, feeS_low (y :: l) (c + 1) _ (fun z hz => by simp at hz; subst hz; omega), feeS_low (y :: l) c _ (fun z hz => by simp at hz; subst hz; omega), margL_low (y :: l) (c + 1) _ (fun z hz => by simp at hz; subst hz; omega)]
          rw [show c + 1 - x.f + 1 = (c - x.f + 1) + 1 by omega, Int.add_mul]; omega
      · rw [if_neg h1]
        have hxf : x.f = c + 1 := by omega
        have e1 : lastT (c + 1) (y :: l) = c + 1 := by rw [lastT]; omega
        rw [e1, feeS_low (y :: l) (c + 1) _ (fun z hz => by simp at hz; subst hz; omega), margL_low (y :: l) (c + 1) _ (fun z hz => by simp at hz; subst hz; omega)]
        rw [hxf, show c + 1 - (c + 1) + 1 = 1 by omega, Int.one_mul]
/-- Right tiers ascend from 1 on. -/
theorem asc_of (l : List Tr) (h : ∀ i, 0 < i → i < l.length → (l.getD (i - 1) default).f < (l.getD i default).f) : ascT l := by
  induction l with
  | nil => trivial
  | cons x l ih =>
    cases l with
    | nil => trivial
    | cons y l =>
      refine ⟨h 1 (by omega) (by simp), ih (fun i hi hl => ?_)⟩
      have := h (i + 1) (by omega) (by simp at hl ⊢; omega)
      cases i with
      | zero => omega
      | succ i => exact this
theorem okT_asc {l : List Tr} (h : okT l) : ascT l := asc_of l (fun i hi hl => (h i hl).2.1 hi)
/-- What holds ahead of tier k: the sum so far, and the last record counted. -/
structure FeeAt (l : List Tr) (c : Int) (k : Nat) (s r : Int) : Prop where
  fee : feeS l c 0 = feeS (l.drop k) c s
  lo : 0 ≤ s
  hi : s ≤ 1000000000 * r
  rc : 0 ≤ r ∧ r ≤ c
  nx : k < l.length → r < (l.getD k default).f
theorem feeAt_start {l : List Tr} (h : okT l) (c : Int) (hc : 0 ≤ c) : FeeAt l c 0 0 0 :=
  ⟨rfl, by omega, by omega, ⟨by omega, hc⟩, fun hl => by have := (h 0 hl).1 rfl; omega⟩
theorem feeAt_next {l : List Tr} (h : okT l) {c s r : Int} {k : Nat} (hF : FeeAt l c k s r) (hk : k < l.length) (hf : (l.getD k default).f ≤ c) (hc : c ≤ 1000000000) :
    (0 ≤ lastT c (l.drop (k + 1)) - (l.getD k default).f + 1 ∧ lastT c (l.drop (k + 1)) ≤ c) ∧ (0 ≤ (lastT c (l.drop (k + 1)) - (l.getD k default).f + 1) * (l.getD k default).p ∧ (lastT c (l.drop (k + 1)) - (l.getD k default).f + 1) * (l.getD k default).p ≤ 1000000000 * (lastT c (l.drop (k + 1)) - (l.getD k default).f + 1)) ∧
    FeeAt l c (k + 1) (s + (lastT c (l.drop (k + 1)) - (l.getD k default).f + 1) * (l.getD k default).p) (lastT c (l.drop (k + 1))) := by
  have hg := h k hk
  have hr := hF.nx hk
  have hlast : (l.getD k default).f ≤ lastT c (l.drop (k + 1)) ∧ lastT c (l.drop (k + 1)) ≤ c ∧ (k + 1 < l.length → lastT c (l.drop (k + 1)) < (l.getD (k + 1) default).f) := by
    by_cases h1 : k + 1 < l.length
    · have := (h (k + 1) h1).2.1 (by omega)
      rw [Nat.add_sub_cancel] at this
      rw [last_next l c k h1]; omega
    · rw [last_end l c k h1]; exact ⟨hf, by omega, fun h => absurd h h1⟩
  have hfe := fee_step l c s k hk hf
  obtain ⟨g1, g2, g3, g4⟩ := hg
  have hF1 := hF.fee
  have hF2 := hF.lo
  have hF3 := hF.hi
  have hF4 := hF.rc
  generalize lastT c (l.drop (k + 1)) = la at *
  generalize (l.getD k default).f = f at *
  generalize (l.getD k default).p = p at *
  have q0 : 0 ≤ (la - f + 1) * p := Int.mul_nonneg (by omega) g3
  have q1 : (la - f + 1) * p ≤ (la - f + 1) * 1000000000 := Int.mul_le_mul_of_nonneg_left g4 (by omega)
  rw [Int.mul_comm (la - f + 1) 1000000000] at q1
  refine ⟨⟨by omega, hlast.2.1⟩, ⟨q0, q1⟩, ⟨hF1.trans hfe, by omega, by omega, ⟨by omega, hlast.2.1⟩, hlast.2.2⟩⟩
end Go.Proofs.Ytfhiepcjkocnlaa
