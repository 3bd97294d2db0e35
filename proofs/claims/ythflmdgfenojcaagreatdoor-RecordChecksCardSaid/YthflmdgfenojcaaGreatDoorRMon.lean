/- The reference's money.Check. -/
import Derived.Test.YthflmdgfenojcaaGreatDoorMon
namespace Go.Proofs.YthflmdgfenojcaaGreatDoor
set_option linter.unusedVariables false
open Go.RowKit

set_option maxHeartbeats 1600000 in
theorem rcur_any (s : ByteArray) (w : World) (hs : s.size ≤ maxLen) : Calls Tryz.prog 141 #[.string s] w fun e w' => e = .returned (.bool (curB s)) ∧ w = w' := by
  unfold maxLen at hs
  have HNO := Lib.hid (fun k h hl => curB_no (s := s) k h hl)
  have HSZ := Lib.hid (fun h => curB_size (s := s) h)
  have HYES := Lib.hid (fun h hw => curB_yes (s := s) h hw)
  go_enter Tryz.func141, Tryz.ntmps141
  go_wp2_with fail
  go_loop [3] (fun i => ∃ k : Nat, k ≤ s.size ∧ k ≤ 3 ∧ i = .int .i64 k ∧ Hid (∀ j, (h : j < k) → (h' : j < s.size) → capB (s[j]).toNat = true)) (fun i => s.size - (intOf i).toNat)
  case atStart => exact ⟨0, Nat.zero_le _, by omega, rfl, Lib.hid (fun j h _ => by omega)⟩
  case round =>
    obtain ⟨k, hk, hk3, rfl, hall⟩ := hrel
    by_cases hlt : k < s.size
    · by_cases h3 : k < 3
      · obtain ⟨c, hc⟩ : ∃ c, (s[k]).toNat = c := ⟨_, rfl⟩
        have hc8 : c < 256 := by rw [← hc]; exact UInt8.toNat_lt _
        have HC := Lib.hid hc
        by_cases h1 : c < 65
        · have HF := Lib.hid (HNO.out k hlt (by rw [hc]; unfold capB; rw [decide_eq_false (by omega)]; rfl))
          have h1' : (c : Int) < 65 := by omega
          go_wp2_with fail
          go_ret
          exact ⟨by rw [HF.out]; rfl, rfl⟩
        · by_cases h2 : 90 < c
          · have HF := Lib.hid (HNO.out k hlt (by rw [hc]; unfold capB; rw [decide_eq_false (show ¬ c ≤ 90 by omega), Bool.and_false]))
            have h1' : ¬ (c : Int) < 65 := by omega
            have h2' : (90 : Int) < (c : Int) := by omega
            go_wp2_with fail
            go_ret
            exact ⟨by rw [HF.out]; rfl, rfl⟩
          · have hN := Lib.hid (show ∀ j, (h : j < k + 1) → (h' : j < s.size) → capB (s[j]).toNat = true from fun j hj hj' => by
              rcases Nat.lt_or_ge j k with q | q
              · exact hall.out j q hj'
              · obtain rfl : j = k := by omega
                rw [hc]; unfold capB; rw [decide_eq_true (by omega), decide_eq_true (by omega)]; rfl)
            have h1' : ¬ (c : Int) < 65 := by omega
            have h2' : ¬ (90 : Int) < (c : Int) := by omega
            go_wp2_with fail
            go_round
            case rel => exact ⟨k + 1, by omega, by omega, by go_num, hN⟩
            case measure => simp [intOf]; omega
      · have HF := Lib.hid (HSZ.out (by omega))
        have hb3 : ((s.size : Int) == 3) = false := by simp only [beq_eq_false_iff_ne]; omega
        go_wp2_with fail
        go_ret
        exact ⟨by rw [HF.out]; rfl, rfl⟩
    · obtain rfl : k = s.size := by omega
      by_cases he : s.size = 3
      · have HT := Lib.hid (HYES.out he (fun j h => hall.out j h h))
        have hb3 : ((s.size : Int) == 3) = true := beq_iff_eq.2 (by omega)
        clear he
        go_wp2_with fail
        go_ret
        exact ⟨by rw [HT.out]; rfl, rfl⟩
      · have HF := Lib.hid (HSZ.out he)
        have hb3 : ((s.size : Int) == 3) = false := by simp only [beq_eq_false_iff_ne]; omega
        clear he
        go_wp2_with fail
        go_ret
        exact ⟨by rw [HF.out]; rfl, rfl⟩
set_option maxHeartbeats 400000 in
theorem rin_any (n : Int) (w : World) : Calls Tryz.prog 142 #[.int .i64 n] w fun e w' => e = .returned (.bool (inT n)) ∧ w = w' := by
  by_cases h1 : -4503599627370496 ≤ n
  · have e1 := Lib.hid (show inT n = decide (n ≤ 4503599627370496) by unfold inT; rw [decide_eq_true h1, Bool.true_and])
    go_enter Tryz.func142, Tryz.ntmps142
    go_wp2_with fail
    go_ret
    exact ⟨by rw [e1.out]; rfl, rfl⟩
  · have e1 := Lib.hid (show inT n = false by unfold inT; rw [decide_eq_false h1, Bool.false_and])
    have h1' : decide (-4503599627370496 ≤ n) = false := decide_eq_false h1
    go_enter Tryz.func142, Tryz.ntmps142
    go_wp2_with fail
    go_ret
    exact ⟨by rw [e1.out]; rfl, rfl⟩
set_option maxHeartbeats 800000 in
theorem rmon_any (a : Int) (s : ByteArray) (w : World) (hs : s.size ≤ maxLen) : Calls Tryz.prog 92 #[.agg #[.int .i64 a, .string s]] w fun e w' => e = .returned (.int .i64 (monE a s)) ∧ Below w.heap.size w w' := by
  have HC := Lib.hid (fun W => rcur_any s W hs)
  have HT := Lib.hid (fun W => rin_any a W)
  cases h1 : curB s
  · have he := Lib.hid (show monE a s = 11 by unfold monE; rw [h1]; rfl)
    rw [h1] at HC
    clear h1
    go_enter Tryz.func92, Tryz.ntmps92
    go_wp2_with fail
    refine (HC.out _).mono ?_
    rintro e w1 ⟨rfl, rfl⟩
    go_wp2_with fail
    go_ret
    exact ⟨by rw [he.out]; rfl, (Below.refl _ _).alloc (Nat.le_refl _) _⟩
  · cases h2 : inT a
    · have he := Lib.hid (show monE a s = 4 by unfold monE; rw [h1, h2]; rfl)
      rw [h1] at HC
      rw [h2] at HT
      clear h1 h2
      go_enter Tryz.func92, Tryz.ntmps92
      go_wp2_with fail
      refine (HC.out _).mono ?_
      rintro e w1 ⟨rfl, rfl⟩
      go_wp2_with fail
      refine (HT.out _).mono ?_
      rintro e w1 ⟨rfl, rfl⟩
      go_wp2_with fail
      go_ret
      exact ⟨by rw [he.out]; rfl, (Below.refl _ _).alloc (Nat.le_refl _) _⟩
    · have he := Lib.hid (show monE a s = 0 by unfold monE; rw [h1, h2]; rfl)
      rw [h1] at HC
      rw [h2] at HT
      clear h1 h2
      go_enter Tryz.func92, Tryz.ntmps92
      go_wp2_with fail
      refine (HC.out _).mono ?_
      rintro e w1 ⟨rfl, rfl⟩
      go_wp2_with fail
      refine (HT.out _).mono ?_
      rintro e w1 ⟨rfl, rfl⟩
      go_wp2_with fail
      go_ret
      exact ⟨by rw [he.out]; rfl, (Below.refl _ _).alloc (Nat.le_refl _) _⟩
end Go.Proofs.YthflmdgfenojcaaGreatDoor
