/- The walks of the calendar's small functions: leap years, the lengths of months and years, the days before a year. -/
import Derived.Test.YtijceaapfbpfcaaDoorProg
import Derived.Test.YtijceaapfbpfcaaDoorPlain
import Derived.WalkLawsBesides
import Derived.WalkSpells
import Derived.Lib.Hide
namespace Go.Proofs.YtijceaapfbpfcaaDoor
set_option linter.unusedVariables false
open Go.RowKit

theorem below2 {a b c : World} (h : Below a.heap.size a b) (k : Below b.heap.size b c) : Below a.heap.size a c := h.trans (k.mono h.size)
/-- The table of the months' lengths stands in its variable. -/
def MD (w : World) : Prop := 0 < w.heap.size ∧ ∀ i : Nat, i < 12 → w.cell? ⟨0, i, none⟩ = some (.int .i64 (ml0 (i + 1)))
theorem MD.below {w w' : World} (h : MD w) (hb : Below w.heap.size w w') : MD w' :=
  ⟨Nat.lt_of_lt_of_le h.1 hb.size, fun i hi => by rw [hb.cell (p := ⟨0, i, none⟩) h.1]; exact h.2 i hi⟩
theorem MD.at {w : World} (h : MD w) (m : Int) (h1 : 1 ≤ m) (h2 : m ≤ 12) : w.cell? ⟨0, m.toNat - 1, none⟩ = some (.int .i64 (ml0 m)) := by
  have := h.2 (m.toNat - 1) (by omega)
  rw [show ((m.toNat - 1 : Nat) : Int) + 1 = m from by omega] at this
  exact this
theorem leap_tests (y : Int) : leapB y = ((y % 4 == 0 && y % 100 != 0) || y % 400 == 0) := by
  unfold leapB; rw [Bool.eq_iff_iff]; simp

set_option maxHeartbeats 400000 in
theorem isLeap_any (y : Int) (w : World) (h0 : 0 ≤ y) :
    Calls Tryd.prog 39 #[.int .i64 y] w fun e w' => e = .returned (.bool (leapB y)) ∧ w = w' := by
  have hl := Lib.hid (leap_tests y)
  cases h4 : y % 4 == 0 <;> cases h100 : y % 100 != 0 <;> cases h400 : y % 400 == 0
  all_goals
    have h4' := Lib.hid h4; have h100' := Lib.hid h100; have h400' := Lib.hid h400
    go_enter Tryd.func39, Tryd.ntmps39
    go_wp2
    go_ret
    exact ⟨by rw [hl.out, h4'.out, h100'.out, h400'.out]; rfl, rfl⟩
set_option maxHeartbeats 400000 in
theorem rleap_any (y : Int) (w : World) (h0 : 0 ≤ y) :
    Calls Tryd.prog 40 #[.int .i64 y] w fun e w' => e = .returned (.bool (leapB y)) ∧ w = w' := by
  have hl := Lib.hid (leap_tests y)
  cases h4 : y % 4 == 0 <;> cases h100 : y % 100 != 0 <;> cases h400 : y % 400 == 0
  all_goals
    have h4' := Lib.hid h4; have h100' := Lib.hid h100; have h400' := Lib.hid h400
    go_enter Tryd.func40, Tryd.ntmps40
    go_wp2
    go_ret
    exact ⟨by rw [hl.out, h4'.out, h100'.out, h400'.out]; first | rfl | (exfalso; have a := h4'.out; have b := h400'.out; simp only [beq_eq_false_iff_ne, beq_iff_eq, ne_eq] at a b; omega), rfl⟩
set_option maxHeartbeats 400000 in
theorem yearLength_any (y : Int) (w : World) (h0 : 0 ≤ y) :
    Calls Tryd.prog 32 #[.int .i64 y] w fun e w' => e = .returned (.int .i64 (yl y)) ∧ w = w' := by
  unfold yl
  have hc := Lib.hid (isLeap_any y w h0)
  cases hb : leapB y
  all_goals
    have hbh := Lib.hid hb
    clear hb
    go_enter Tryd.func32, Tryd.ntmps32
    go_wp2_with fail
    refine hc.out.mono ?_
    rintro e w' ⟨rfl, rfl⟩
    rw [hbh.out]
    go_wp2_with fail
    go_ret
    exact ⟨rfl, rfl⟩
set_option maxHeartbeats 400000 in
theorem lengthOf_any (y m : Int) (w : World) (h0 : 0 ≤ y) (h1 : 1 ≤ m) (h2 : m ≤ 12) (hm : MD w) :
    Calls Tryd.prog 31 #[.int .i64 y, .int .i64 m] w fun e w' => e = .returned (.int .i64 (ml y m)) ∧ w = w' := by
  have hc := hm.at m h1 h2
  have hcl := Lib.hid (isLeap_any y w h0)
  by_cases hm2 : m = 2
  · subst hm2
    have hc2 : w.cell? ⟨0, 1, none⟩ = some (.int .i64 28) := hm.2 1 (by omega)
    cases hb : leapB y
    all_goals
      have hml : Hid (ml y 2 = _) := Lib.hid (show ml y 2 = if leapB y = true then 29 else 28 by unfold ml ml0; cases leapB y <;> rfl)
      have hbh := Lib.hid hb
      clear hb
      go_enter Tryd.func31, Tryd.ntmps31
      go_wp2_with fail
      refine hcl.out.mono ?_
      rintro e w' ⟨rfl, rfl⟩
      rw [hbh.out]
      go_wp2_with fail
      go_ret
      exact ⟨ret_int (by rw [hml.out, hbh.out]; rfl), rfl⟩
  · have hml := Lib.hid (show ml y m = ml0 m by unfold ml; rw [if_neg (fun h => hm2 h.1)])
    have hb2 : (m == 2) = false := beq_eq_false_iff_ne.2 hm2
    clear hm2
    go_enter Tryd.func31, Tryd.ntmps31
    go_wp2_with fail
    go_ret
    exact ⟨ret_int (by rw [hml.out]), rfl⟩

theorem tab_at (m : Int) (h1 : 1 ≤ m) (h2 : m ≤ 12) : (#[Value.int .i64 31, .int .i64 28, .int .i64 31, .int .i64 30, .int .i64 31, .int .i64 30, .int .i64 31, .int .i64 31, .int .i64 30, .int .i64 31, .int .i64 30, .int .i64 31] : Array Value)[m.toNat - 1]? = some (.int .i64 (ml0 m)) := by
  obtain ⟨n, rfl⟩ : ∃ n : Nat, m = n + 1 := ⟨(m - 1).toNat, by omega⟩
  rw [show ((n : Int) + 1).toNat - 1 = n from by omega]
  match n, h2 with
  | 0, _ => rfl
  | 1, _ => rfl
  | 2, _ => rfl
  | 3, _ => rfl
  | 4, _ => rfl
  | 5, _ => rfl
  | 6, _ => rfl
  | 7, _ => rfl
  | 8, _ => rfl
  | 9, _ => rfl
  | 10, _ => rfl
  | 11, _ => rfl
  | n + 12, h => omega
set_option maxHeartbeats 400000 in
theorem days_any (y m : Int) (w : World) (h0 : 0 ≤ y) (h1 : 1 ≤ m) (h2 : m ≤ 12) :
    Calls Tryd.prog 34 #[.int .i64 y, .int .i64 m] w fun e w' => e = .returned (.int .i64 (ml y m)) ∧ Below w.heap.size w w' := by
  have hcl := Lib.hid (rleap_any y w h0)
  by_cases hm2 : m = 2
  · subst hm2
    cases hb : leapB y
    all_goals
      have hml : Hid (ml y 2 = _) := Lib.hid (show ml y 2 = if leapB y = true then 29 else 28 by unfold ml ml0; cases leapB y <;> rfl)
      have hbh := Lib.hid hb
      clear hb
      go_enter Tryd.func34, Tryd.ntmps34
      go_wp2_with fail
      refine hcl.out.mono ?_
      rintro e w' ⟨rfl, rfl⟩
      rw [hbh.out]
      go_wp2_with fail
      go_ret
      exact ⟨ret_int (by rw [hml.out, hbh.out]; rfl), by first | exact Below.refl _ _ | exact (Below.refl _ _).alloc (Nat.le_refl _) _⟩
  · have hml := Lib.hid (show ml y m = ml0 m by unfold ml; rw [if_neg (fun h => hm2 h.1)])
    have hb2 : (m == 2) = false := beq_eq_false_iff_ne.2 hm2
    have hc : (w.alloc (.cells #[Value.int .i64 31, .int .i64 28, .int .i64 31, .int .i64 30, .int .i64 31, .int .i64 30, .int .i64 31, .int .i64 31, .int .i64 30, .int .i64 31, .int .i64 30, .int .i64 31] 3)).cell? ⟨w.heap.size, m.toNat - 1, none⟩ = some (.int .i64 (ml0 m)) := by
      rw [World.cell?_alloc_mark]; exact tab_at m h1 h2
    clear hm2
    go_enter Tryd.func34, Tryd.ntmps34
    go_wp2_with fail
    go_ret
    exact ⟨ret_int (by rw [hml.out]), (Below.refl _ _).alloc (Nat.le_refl _) _⟩
set_option maxHeartbeats 400000 in
theorem before_any (y : Int) (w : World) (h1 : 1970 ≤ y) (h2 : y ≤ 3000) :
    Calls Tryd.prog 35 #[.int .i64 y] w fun e w' => e = .returned (.int .i64 (dby y)) ∧ w = w' := by
  go_enter Tryd.func35, Tryd.ntmps35
  go_wp2_with fail
  go_loop [3, 4] (fun n i => ∃ x : Int, 1970 ≤ x ∧ x ≤ y ∧ i = .int .i64 x ∧ n = .int .i64 (dby x)) (fun _ i => (y - intOf i).toNat)
  case atStart => exact ⟨1970, by omega, h1, rfl, rfl⟩
  case round =>
    obtain ⟨x, hx1, hx2, rfl, rfl⟩ := hrel
    have hb := dby_bd x hx1
    have hs := Lib.hid (dby_succ x hx1)
    have hle := Lib.hid (rleap_any x w (by omega))
    rcases Int.lt_or_eq_of_le hx2 with hlt | rfl
    · generalize dby x = t at hb hs
      cases hlb : leapB x
      all_goals
        have hlh := Lib.hid hlb
        clear hlb
        go_wp2_with fail
        refine hle.out.mono ?_
        rintro e w' ⟨rfl, rfl⟩
        rw [hlh.out]
        go_wp2_with fail
        go_round
        case rel => exact ⟨x + 1, by omega, by omega, rfl, i64_eq (by rw [hs.out]; unfold yl; rw [hlh.out]; simp; try omega)⟩
        case measure => simp [intOf]; omega
    · go_wp2_with fail
      go_ret
      exact ⟨rfl, rfl⟩
set_option maxHeartbeats 400000 in
theorem isDate_any (d : Int) (w : World) :
    Calls Tryd.prog 33 #[.int .i64 d] w fun e w' => e = .returned (.bool (decide (0 ≤ d ∧ d ≤ 99999))) ∧ w = w' := by
  by_cases h1 : 0 ≤ d <;> by_cases h2 : d ≤ 99999
  all_goals
    have h1' := Lib.hid h1; have h2' := Lib.hid h2
    go_enter Tryd.func33, Tryd.ntmps33
    go_wp2_with fail
    go_ret
    exact ⟨by have a := h1'.out; have b := h2'.out; simp [a, b], rfl⟩
set_option maxHeartbeats 400000 in
theorem rIsDate_any (d : Int) (w : World) :
    Calls Tryd.prog 36 #[.int .i64 d] w fun e w' => e = .returned (.bool (decide (0 ≤ d ∧ d ≤ 99999))) ∧ w = w' := by
  by_cases h1 : 0 ≤ d <;> by_cases h2 : d ≤ 99999
  all_goals
    have h1' := Lib.hid h1; have h2' := Lib.hid h2
    go_enter Tryd.func36, Tryd.ntmps36
    go_wp2_with fail
    go_ret
    exact ⟨by have a := h1'.out; have b := h2'.out; simp [a, b], rfl⟩
end Go.Proofs.YtijceaapfbpfcaaDoor
