/- The order of the ranges, plain: two strings, where the end counts at1 greater than every byte; ranks of places. No walk. -/
import Derived.Test.YtiegoffdbhmfbaaGreatDoorExa
import Derived.Test.YtiegoffdbhmfbaaGreatDoorStb
namespace Go.Proofs.YtiegoffdbhmfbaaGreatDoor
set_option linter.unusedVariables false
open Go.Sort

def ordL : List UInt8 → List UInt8 → Int
  | [], [] => 0
  | [], _ :: _ => 1
  | _ :: _, [] => -1
  | a :: at1, b :: bt1 => if a < b then -1 else if b < a then 1 else ordL at1 bt1
theorem ordL_self : ∀ a, ordL a a = 0
  | [] => rfl
  | a :: at1 => by unfold ordL; rw [if_neg (UInt8.lt_irrefl a), if_neg (UInt8.lt_irrefl a)]; exact ordL_self at1
theorem u8_asymm {a b : UInt8} (h : a < b) : ¬ b < a := fun h' => UInt8.lt_irrefl a (UInt8.lt_trans h h')
theorem u8_eq {a b : UInt8} (h : ¬ a < b) (h' : ¬ b < a) : a = b := UInt8.le_antisymm (UInt8.not_lt.1 h') (UInt8.not_lt.1 h)
theorem ordL_anti : ∀ a b, ordL b a = - ordL a b
  | [], [] => rfl
  | [], _ :: _ => rfl
  | _ :: _, [] => rfl
  | a :: at1, b :: bt1 => by
    unfold ordL
    by_cases h : a < b
    · rw [if_pos h, if_neg (u8_asymm h), if_pos h]; rfl
    · rw [if_neg h]
      by_cases h' : b < a
      · rw [if_pos h', if_neg h, if_pos h']
      · rw [if_neg h', if_neg h', if_neg h]; exact ordL_anti at1 bt1
theorem ordL_eq : ∀ a b, ordL a b = 0 → a = b
  | [], [], _ => rfl
  | [], _ :: _, h => by cases h
  | _ :: _, [], h => by cases h
  | a :: at1, b :: bt1, h => by
    unfold ordL at h
    by_cases q : a < b
    · rw [if_pos q] at h; cases h
    · rw [if_neg q] at h
      by_cases q' : b < a
      · rw [if_pos q'] at h; cases h
      · rw [if_neg q'] at h
        rw [u8_eq q q', ordL_eq at1 bt1 h]
theorem ordL_trans : ∀ a b c, ordL a b < 0 → ordL b c < 0 → ordL a c < 0
  | [], [], c, h, _ => by cases h
  | [], _ :: _, _, h, _ => absurd (show (1 : Int) < 0 from h) (by decide)
  | _ :: _, [], [], _, h => absurd (show (0 : Int) < 0 from h) (by decide)
  | _ :: _, [], _ :: _, _, h => absurd (show (1 : Int) < 0 from h) (by decide)
  | _ :: _, _ :: _, [], _, _ => show (-1 : Int) < 0 by decide
  | a :: at1, b :: bt1, c :: ct1, h, h' => by
    unfold ordL at h h' ⊢
    by_cases q1 : a < b
    · by_cases q2 : b < c
      · rw [if_pos (UInt8.lt_trans q1 q2)]; decide
      · rw [if_neg q2] at h'
        by_cases q3 : c < b
        · rw [if_pos q3] at h'; exact absurd h' (by decide)
        · rw [← u8_eq q2 q3, if_pos q1]; decide
    · rw [if_neg q1] at h
      by_cases q4 : b < a
      · rw [if_pos q4] at h; exact absurd h (by decide)
      · rw [if_neg q4] at h
        obtain rfl := u8_eq q1 q4
        by_cases q2 : a < c
        · rw [if_pos q2]; decide
        · rw [if_neg q2] at h' ⊢
          by_cases q3 : c < a
          · rw [if_pos q3] at h'; exact absurd h' (by decide)
          · rw [if_neg q3] at h' ⊢
            exact ordL_trans at1 bt1 ct1 h h'
/-- The comparison of two ranges. -/
def cmpRg (a b : Rg) : Int := if ordL a.lo.data.toList b.lo.data.toList ≠ 0 then ordL a.lo.data.toList b.lo.data.toList else ordL a.hi.data.toList b.hi.data.toList
theorem cmpRg_self (a : Rg) : cmpRg a a = 0 := by unfold cmpRg; rw [ordL_self, ordL_self]; rfl
theorem cmpRg_anti (a b : Rg) : cmpRg b a = - cmpRg a b := by
  unfold cmpRg
  rw [ordL_anti a.lo.data.toList, ordL_anti a.hi.data.toList]
  by_cases h : ordL a.lo.data.toList b.lo.data.toList = 0
  · rw [if_neg (by simpa using h), if_neg (by simpa using h)]
  · rw [if_pos (by omega), if_pos h]
theorem cmpRg_trans (a b c : Rg) (h : cmpRg a b < 0) (h' : cmpRg b c < 0) : cmpRg a c < 0 := by
  unfold cmpRg at *
  by_cases q1 : ordL a.lo.data.toList b.lo.data.toList = 0
  · rw [if_neg (by simpa using q1)] at h
    rw [ordL_eq _ _ q1]
    by_cases q2 : ordL b.lo.data.toList c.lo.data.toList = 0
    · rw [if_neg (by simpa using q2)] at h' ⊢
      exact ordL_trans _ _ _ h h'
    · rw [if_pos q2] at h' ⊢; exact h'
  · rw [if_pos q1] at h
    by_cases q2 : ordL b.lo.data.toList c.lo.data.toList = 0
    · rw [← ordL_eq _ _ q2, if_pos q1]; exact h
    · rw [if_pos q2] at h'
      have := ordL_trans _ _ _ h h'
      rw [if_pos (by omega)]; exact this
theorem cmpRg_eq (a b : Rg) (h : cmpRg a b = 0) : a.lo = b.lo ∧ a.hi = b.hi := by
  unfold cmpRg at h
  by_cases q1 : ordL a.lo.data.toList b.lo.data.toList = 0
  · rw [if_neg (by simpa using q1)] at h
    have e1 := ordL_eq _ _ q1
    have e2 := ordL_eq _ _ h
    obtain ⟨⟨⟨l1⟩⟩, ⟨⟨h1⟩⟩, _, _⟩ := a
    obtain ⟨⟨⟨l2⟩⟩, ⟨⟨h2⟩⟩, _, _⟩ := b
    simp only at e1 e2
    subst e1; subst e2
    exact ⟨rfl, rfl⟩
  · rw [if_pos q1] at h; exact absurd h q1
/-- x comes ahead of y. -/
def ltB (a b : Rg) : Bool := decide (cmpRg a b < 0)
theorem cmpRg_ntrans (a b c : Rg) (h : ¬ cmpRg a b < 0) (h' : ¬ cmpRg b c < 0) : ¬ cmpRg a c < 0 := by
  intro q
  have h1 := cmpRg_anti a b
  have h2 := cmpRg_anti b c
  by_cases e1 : cmpRg a b = 0
  · obtain ⟨e, e'⟩ := cmpRg_eq _ _ e1
    have : cmpRg b c = cmpRg a c := by unfold cmpRg; rw [e, e']
    omega
  · have := cmpRg_trans b a c (by omega) q
    omega
/-- How many of the first n come behind the place x: the rank that the stable order asks for. -/
def rkR (f : Nat → Rg) (n : Nat) (x : Nat) : Nat := ((List.range n).filter fun k => ltB (f x) (f k)).length
theorem rkR_lt (f : Nat → Rg) (n : Nat) {x y : Nat} (hx : x < n) (hy : y < n) : ltR (rkR f n) x y = decide (cmpRg (f x) (f y) < 0) := by
  have mono : ∀ a b : Nat, ¬ cmpRg (f b) (f a) < 0 → ((List.range n).filter fun k => ltB (f b) (f k)).Sublist ((List.range n).filter fun k => ltB (f a) (f k)) := fun a b h => by
    have e : (List.range n).filter (fun k => ltB (f b) (f k)) = ((List.range n).filter fun k => ltB (f a) (f k)).filter fun k => ltB (f b) (f k) := by
      rw [List.filter_filter]
      refine List.filter_congr fun k _ => ?_
      cases hk : ltB (f b) (f k)
      · rfl
      · simp only [ltB, decide_eq_true_eq] at hk
        have : ltB (f a) (f k) = true := by
          simp only [ltB, decide_eq_true_eq]
          exact Decidable.by_contra fun q => cmpRg_ntrans _ _ _ h q hk
        rw [this]; rfl
    rw [e]; exact List.filter_sublist
  unfold ltR
  by_cases h : cmpRg (f x) (f y) < 0
  · rw [decide_eq_true h, decide_eq_true_eq]
    have hs := mono x y (by have := cmpRg_anti (f x) (f y); omega)
    have hle := hs.length_le
    refine Nat.lt_of_le_of_ne hle (fun e => ?_)
    have he := hs.eq_of_length e
    have hmem : y ∈ (List.range n).filter (fun k => ltB (f x) (f k)) := List.mem_filter.2 ⟨List.mem_range.2 hy, by simpa [ltB] using h⟩
    rw [← he] at hmem
    have := (List.mem_filter.1 hmem).2
    simp [ltB, cmpRg_self] at this
  · rw [decide_eq_false h, decide_eq_false_iff_not, Nat.not_lt]
    exact (mono y x h).length_le
end Go.Proofs.YtiegoffdbhmfbaaGreatDoor
