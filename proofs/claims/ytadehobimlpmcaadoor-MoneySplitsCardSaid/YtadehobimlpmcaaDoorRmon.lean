/- The walks of the reference's Check of an amount, of its parts, and of weights. -/
import Derived.Test.YtadehobimlpmcaaDoorMon
import Derived.Test.YtadehobimlpmcaaDoorWgt
namespace Go.Proofs.YtadehobimlpmcaaDoor
set_option linter.unusedVariables false
open Go.RowKit

set_option maxHeartbeats 1600000 in
theorem rcur_any (s : ByteArray) (w : World) (hs : s.size ≤ maxLen) : Calls Tryd.prog 53 #[.string s] w fun e w' => e = .returned (.bool (curB s)) ∧ w = w' := by
  unfold maxLen at hs
  have HNO := Lib.hid (fun k h hl => curB_no (s := s) k h hl)
  have HSZ := Lib.hid (fun h => curB_size (s := s) h)
  have HYES := Lib.hid (fun h hw => curB_yes (s := s) h hw)
  go_enter Tryd.func53, Tryd.ntmps53
  go_wp2_with fail
  go_loop [3] (fun i => ∃ k : Nat, k ≤ s.size ∧ k ≤ 3 ∧ i = .int .i64 k ∧ Hid (∀ j, (h : j < k) → (h' : j < s.size) → capB (s[j]).toNat = true)) (fun i => s.size - (intOf i).toNat)
  case atStart => exact ⟨0, Nat.zero_le _, by omega, rfl, Lib.hid (fun j h _ => by omega)⟩
  case round =>
    obtain ⟨k, hk, hk3, rfl, hall⟩ := hrel
    by_cases hlt : k < s.size
    · by_cases h3 : k < 3
      · obtain ⟨c, hc⟩ : ∃ c, (s[k]).toNat = c := ⟨_, rfl⟩
        have hc8 : c < 256 := by rw [← hc]; exact UInt8.toNat_lt _
        have HC := Lib.hid hc
        by_cases h1 : c < 65
        · have HF := Lib.hid (HNO.out k hlt (by rw [hc]; unfold capB; rw [decide_eq_false (by omega)]; rfl))
          have h1' : (c : Int) < 65 := by omega
          go_wp2_with fail
          go_ret
          exact ⟨by rw [HF.out]; rfl, rfl⟩
        · by_cases h2 : 90 < c
          · have HF := Lib.hid (HNO.out k hlt (by rw [hc]; unfold capB; rw [decide_eq_false (show ¬ c ≤ 90 by omega), Bool.and_false]))
            have h1' : ¬ (c : Int) < 65 := by omega
            have h2' : (90 : Int) < (c : Int) := by omega
            go_wp2_with fail
            go_ret
            exact ⟨by rw [HF.out]; rfl, rfl⟩
          · have hN := Lib.hid (show ∀ j, (h : j < k + 1) → (h' : j < s.size) → capB (s[j]).toNat = true from fun j hj hj' => by
              rcases Nat.lt_or_ge j k with q | q
              · exact hall.out j q hj'
              · obtain rfl : j = k := by omega
                rw [hc]; unfold capB; rw [decide_eq_true (by omega), decide_eq_true (by omega)]; rfl)
            have h1' : ¬ (c : Int) < 65 := by omega
            have h2' : ¬ (90 : Int) < (c : Int) := by omega
            go_wp2_with fail
            go_round
            case rel => exact ⟨k + 1, by omega, by omega, by go_num, hN⟩
            case measure => simp [intOf]; omega
      · have HF := Lib.hid (HSZ.out (by omega))
        have hb3 : ((s.size : Int) == 3) = false := by simp only [beq_eq_false_iff_ne]; omega
        go_wp2_with fail
        go_ret
        exact ⟨by rw [HF.out]; rfl, rfl⟩
    · obtain rfl : k = s.size := by omega
      by_cases he : s.size = 3
      · have HT := Lib.hid (HYES.out he (fun j h => hall.out j h h))
        have hb3 : ((s.size : Int) == 3) = true := beq_iff_eq.2 (by omega)
        clear he
        go_wp2_with fail
        go_ret
        exact ⟨by rw [HT.out]; rfl, rfl⟩
      · have HF := Lib.hid (HSZ.out he)
        have hb3 : ((s.size : Int) == 3) = false := by simp only [beq_eq_false_iff_ne]; omega
        clear he
        go_wp2_with fail
        go_ret
        exact ⟨by rw [HF.out]; rfl, rfl⟩
set_option maxHeartbeats 400000 in
theorem rin_any (n : Int) (w : World) : Calls Tryd.prog 51 #[.int .i64 n] w fun e w' => e = .returned (.bool (inT n)) ∧ w = w' := by
  by_cases h1 : -4503599627370496 ≤ n
  · have e1 := Lib.hid (show inT n = decide (n ≤ 4503599627370496) by unfold inT; rw [decide_eq_true h1, Bool.true_and])
    go_enter Tryd.func51, Tryd.ntmps51
    go_wp2_with fail
    go_ret
    exact ⟨by rw [e1.out]; rfl, rfl⟩
  · have e1 := Lib.hid (show inT n = false by unfold inT; rw [decide_eq_false h1, Bool.false_and])
    have h1' : decide (-4503599627370496 ≤ n) = false := decide_eq_false h1
    go_enter Tryd.func51, Tryd.ntmps51
    go_wp2_with fail
    go_ret
    exact ⟨by rw [e1.out]; rfl, rfl⟩
set_option maxHeartbeats 800000 in
theorem rmon_any (a : Int) (s : ByteArray) (w : World) (hs : s.size ≤ maxLen) : Calls Tryd.prog 26 #[.agg #[.int .i64 a, .string s]] w fun e w' => e = .returned (.int .i64 (monE a s)) ∧ Below w.heap.size w w' := by
  have HC := Lib.hid (fun W => rcur_any s W hs)
  have HT := Lib.hid (fun W => rin_any a W)
  cases h1 : curB s
  · have he := Lib.hid (show monE a s = 11 by unfold monE; rw [h1]; rfl)
    rw [h1] at HC
    clear h1
    go_enter Tryd.func26, Tryd.ntmps26
    go_wp2_with fail
    refine (HC.out _).mono ?_
    rintro e w1 ⟨rfl, rfl⟩
    go_wp2_with fail
    go_ret
    exact ⟨by rw [he.out]; rfl, (Below.refl _ _).alloc (Nat.le_refl _) _⟩
  · cases h2 : inT a
    · have he := Lib.hid (show monE a s = 4 by unfold monE; rw [h1, h2]; rfl)
      rw [h1] at HC
      rw [h2] at HT
      clear h1 h2
      go_enter Tryd.func26, Tryd.ntmps26
      go_wp2_with fail
      refine (HC.out _).mono ?_
      rintro e w1 ⟨rfl, rfl⟩
      go_wp2_with fail
      refine (HT.out _).mono ?_
      rintro e w1 ⟨rfl, rfl⟩
      go_wp2_with fail
      go_ret
      exact ⟨by rw [he.out]; rfl, (Below.refl _ _).alloc (Nat.le_refl _) _⟩
    · have he := Lib.hid (show monE a s = 0 by unfold monE; rw [h1, h2]; rfl)
      rw [h1] at HC
      rw [h2] at HT
      clear h1 h2
      go_enter Tryd.func26, Tryd.ntmps26
      go_wp2_with fail
      refine (HC.out _).mono ?_
      rintro e w1 ⟨rfl, rfl⟩
      go_wp2_with fail
      refine (HT.out _).mono ?_
      rintro e w1 ⟨rfl, rfl⟩
      go_wp2_with fail
      go_ret
      exact ⟨by rw [he.out]; rfl, (Below.refl _ _).alloc (Nat.le_refl _) _⟩
set_option maxHeartbeats 3200000 in
theorem rwgt_any (A : Option Addr) (c : Nat) (ws : List Int) (w : World) (hr : IsRow w A (cellsI ws)) (hl : ws.length ≤ 1000000) :
    Calls Tryd.prog 40 #[.slice A ws.length c] w fun e w' => e = .returned (.int .i64 (sumV1 ws)) ∧ w = w' := by
  by_cases h64 : 64 < ws.length
  · have hf := Lib.hid (show sumV1 ws = 0 by unfold sumV1 allW; rw [decide_eq_false (by omega)]; rfl)
    clear hr
    go_enter Tryd.func40, Tryd.ntmps40
    go_wp2_with fail
    go_ret
    exact ⟨by rw [hf.out]; rfl, rfl⟩
  · have HR := Lib.hid hr
    have HB := Lib.hid (show ∀ k, k < ws.length → okW (ws.getD k 0) = false → sumV1 ws = 0 from fun k hk h => by unfold sumV1; rw [allW_no k hk h]; rfl)
    have HY := Lib.hid (show (∀ j, j < ws.length → okW (ws.getD j 0) = true) → sumV1 ws = totW ws ws.length from fun h => by unfold sumV1; rw [allW_yes (by omega) h]; rfl)
    clear hr
    go_enter Tryd.func40, Tryd.ntmps40
    go_wp2_with fail
    obtain ⟨M, hM⟩ : ∃ M : Int, (1099511627776 : Int) = M := ⟨_, rfl⟩
    rw [hM]
    have HM := Lib.hid hM
    clear hM
    go_loop [3, 4] (fun s i => ∃ k : Nat, k ≤ ws.length ∧ i = .int .i64 k ∧ s = .int .i64 (totW ws k) ∧ Hid (∀ j, j < k → okW (ws.getD j 0) = true)) (fun _ i => ws.length - (intOf i).toNat)
    case atStart => exact ⟨0, Nat.zero_le _, rfl, rfl, Lib.hid (fun j h => by omega)⟩
    case round =>
      obtain ⟨k, hk, rfl, rfl, hall⟩ := hrel
      by_cases hlt : k < ws.length
      · rcases HR.out with h0 | ⟨b, off, rfl, hc⟩
        · rw [show (cellsI ws).length = ws.length by simp [cellsI]] at h0; omega
        have c0 := row_int hc k hlt
        have hbd : totW ws k ≤ 1099511627776 * 64 := Nat.le_trans (totW_bd k hall.out) (Nat.mul_le_mul_left _ (by omega))
        have hst := Lib.hid (show totW ws (k + 1) = totW ws k + (ws.getD k 0).toNat by unfold totW; rw [sumTo, natsOf_at])
        have hbad := Lib.hid (HB.out k hlt)
        have hnx := Lib.hid (show okW (ws.getD k 0) = true → ∀ j, j < k + 1 → okW (ws.getD j 0) = true from fun h j hj => by
          rcases Nat.lt_or_ge j k with q | q
          · exact hall.out j q
          · obtain rfl : j = k := by omega
            exact h)
        clear hc
        generalize ws.getD k 0 = x at *
        by_cases hx : 0 ≤ x ∧ x ≤ 1099511627776
        · have hN := Lib.hid (hnx.out ((okW_iff x).2 hx))
          have hT : totW ws (k + 1) = totW ws k + x.toNat := hst.out
          have e2 : IntKind.i64.wrap ((totW ws k : Int) + x) = ((totW ws (k + 1) : Nat) : Int) := by rw [IntWalk.i64_in _ (by omega)]; omega
          have x0 : ¬ x < 0 := by omega
          have x1 : ¬ M < x := by rw [← HM.out]; omega
          obtain ⟨T1, hT1⟩ : ∃ T1, totW ws (k + 1) = T1 := ⟨_, rfl⟩
          rw [hT1] at e2 hT
          have HT1 := Lib.hid hT1
          clear hT1
          generalize totW ws k = T0 at *
          clear hx hT hbd hst hnx hbad
          go_wp2_with fail
          exact ⟨⟨k + 1, by omega, by go_num, by rw [HT1.out], hN⟩, by simp [intOf]; omega⟩
        · have hF := Lib.hid (hbad.out (by cases h : okW x; rfl; exact absurd ((okW_iff x).1 h) hx))
          have hd : x < 0 ∨ (¬ x < 0 ∧ M < x) := by rw [← HM.out]; omega
          clear hx hbd hst hnx hbad
          rcases hd with q | ⟨q, q'⟩
          all_goals
            go_wp2_with fail
            go_ret
            exact ⟨by rw [hF.out]; rfl, rfl⟩
      · obtain rfl : k = ws.length := by omega
        have hF := Lib.hid (HY.out hall.out)
        generalize totW ws ws.length = T at *
        go_wp2_with fail
        go_ret
        exact ⟨by rw [hF.out]; rfl, rfl⟩
end Go.Proofs.YtadehobimlpmcaaDoor
