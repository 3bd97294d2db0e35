/- Part of the proof over this seat. -/
import Derived.Test.YthflmdgfenojcaaGreatDoorQBase
namespace Go.Proofs.YthflmdgfenojcaaGreatDoor
set_option linter.unusedVariables false
open Go.RowKit
def capB (c : Nat) : Bool := decide (65 ≤ c) && decide (c ≤ 90)
/-- A currency: three capital letters. -/
def curB (s : ByteArray) : Bool := decide (s.size = 3) && s.data.toList.all (fun b => capB b.toNat)
theorem curB_size {s : ByteArray} (h : s.size ≠ 3) : curB s = false := by unfold curB; rw [decide_eq_false h]; rfl
theorem curB_no {s : ByteArray} (k : Nat) (h : k < s.size) (hl : capB (s[k]).toNat = false) : curB s = false := by
  unfold curB
  rw [Bool.and_eq_false_iff]
  right
  rw [List.all_eq_false]
  exact ⟨s[k], Array.getElem_mem_toList h, by rw [hl]; simp⟩
theorem curB_yes {s : ByteArray} (h : s.size = 3) (hw : ∀ j, (h : j < s.size) → capB (s[j]).toNat = true) : curB s = true := by
  unfold curB
  rw [decide_eq_true h, Bool.true_and, List.all_eq_true]
  intro b hb
  obtain ⟨i, hi, rfl⟩ := List.mem_iff_getElem.1 hb
  exact hw i (by simpa using hi)
set_option maxHeartbeats 1600000 in
theorem cur_any (s : ByteArray) (w : World) (hs : s.size ≤ maxLen) : Calls Tryz.prog 173 #[.string s] w fun e w' => e = .returned (.bool (curB s)) ∧ w = w' := by
  unfold maxLen at hs
  by_cases h3 : s.size = 3
  · have hb3 : ((s.size : Int) != 3) = false := by simp only [bne_eq_false_iff_eq]; omega
    have H3 := Lib.hid h3
    have hlo : 3 ≤ s.size := by omega
    have hhi : s.size ≤ 3 := by omega
    clear h3
    go_enter Tryz.func173, Tryz.ntmps173
    go_wp2_with fail
    go_loop [9] (fun i => ∃ k : Nat, k ≤ s.size ∧ i = .int .i64 k ∧ Hid (∀ j, (h : j < k) → (h' : j < s.size) → capB (s[j]).toNat = true)) (fun i => s.size - (intOf i).toNat)
    case atStart => exact ⟨0, Nat.zero_le _, rfl, Lib.hid (fun j h _ => by omega)⟩
    case round =>
      obtain ⟨k, hk, rfl, hall⟩ := hrel
      by_cases hlt : k < s.size
      · obtain ⟨c, hc⟩ : ∃ c, (s[k]).toNat = c := ⟨_, rfl⟩
        have hc8 : c < 256 := by rw [← hc]; exact UInt8.toNat_lt _
        have HC := Lib.hid hc
        by_cases h1 : c < 65
        · have HF := Lib.hid (curB_no k hlt (by rw [hc]; unfold capB; rw [decide_eq_false (by omega)]; rfl))
          have h1' : (c : Int) < 65 := by omega
          go_wp2_with fail
          go_ret
          exact ⟨by rw [HF.out]; rfl, rfl⟩
        · by_cases h2 : 90 < c
          · have HF := Lib.hid (curB_no k hlt (by rw [hc]; unfold capB; rw [decide_eq_false (show ¬ c ≤ 90 by omega), Bool.and_false]))
            have h1' : ¬ (c : Int) < 65 := by omega
            have h2' : (90 : Int) < (c : Int) := by omega
            go_wp2_with fail
            go_ret
            exact ⟨by rw [HF.out]; rfl, rfl⟩
          · have hN := Lib.hid (show ∀ j, (h : j < k + 1) → (h' : j < s.size) → capB (s[j]).toNat = true from fun j hj hj' => by
              rcases Nat.lt_or_ge j k with q | q
              · exact hall.out j q hj'
              · obtain rfl : j = k := by omega
                rw [hc]; unfold capB; rw [decide_eq_true (by omega), decide_eq_true (by omega)]; rfl)
            have h1' : ¬ (c : Int) < 65 := by omega
            have h2' : ¬ (90 : Int) < (c : Int) := by omega
            go_wp2_with fail
            go_round
            case rel => exact ⟨k + 1, by omega, by go_num, hN⟩
            case measure => simp [intOf]; omega
      · obtain rfl : k = s.size := by omega
        have HT := Lib.hid (curB_yes H3.out (fun j h => hall.out j h h))
        go_wp2_with fail
        go_ret
        exact ⟨by rw [HT.out]; rfl, rfl⟩
  · have hb3 : ((s.size : Int) != 3) = true := bne_iff_ne.2 (by omega)
    have HF := Lib.hid (curB_size h3)
    clear h3
    go_enter Tryz.func173, Tryz.ntmps173
    go_wp2_with fail
    go_ret
    exact ⟨by rw [HF.out]; rfl, rfl⟩
def inT (n : Int) : Bool := decide (-4503599627370496 ≤ n) && decide (n ≤ 4503599627370496)
set_option maxHeartbeats 400000 in
theorem inT_any (n : Int) (w : World) : Calls Tryz.prog 174 #[.int .i64 n] w fun e w' => e = .returned (.bool (inT n)) ∧ w = w' := by
  by_cases h1 : -4503599627370496 ≤ n
  · have e1 := Lib.hid (show inT n = decide (n ≤ 4503599627370496) by unfold inT; rw [decide_eq_true h1, Bool.true_and])
    go_enter Tryz.func174, Tryz.ntmps174
    go_wp2_with fail
    go_ret
    exact ⟨by rw [e1.out]; rfl, rfl⟩
  · have e1 := Lib.hid (show inT n = false by unfold inT; rw [decide_eq_false h1, Bool.false_and])
    have h1' : decide (-4503599627370496 ≤ n) = false := decide_eq_false h1
    go_enter Tryz.func174, Tryz.ntmps174
    go_wp2_with fail
    go_ret
    exact ⟨by rw [e1.out]; rfl, rfl⟩
/-- The error of an amount. -/
def monE (a : Int) (s : ByteArray) : Int := if curB s = true then (if inT a = true then 0 else 4) else 11
set_option maxHeartbeats 800000 in
theorem mon_any (a : Int) (s : ByteArray) (w : World) (hs : s.size ≤ maxLen) : Calls Tryz.prog 136 #[.agg #[.int .i64 a, .string s]] w fun e w' => e = .returned (.int .i64 (monE a s)) ∧ Below w.heap.size w w' := by
  have HC := Lib.hid (fun W => cur_any s W hs)
  have HT := Lib.hid (fun W => inT_any a W)
  cases h1 : curB s
  · have he := Lib.hid (show monE a s = 11 by unfold monE; rw [h1]; rfl)
    rw [h1] at HC
    clear h1
    go_enter Tryz.func136, Tryz.ntmps136
    go_wp2_with fail
    refine (HC.out _).mono ?_
    rintro e w1 ⟨rfl, rfl⟩
    go_wp2_with fail
    go_ret
    exact ⟨by rw [he.out]; rfl, (Below.refl _ _).alloc (Nat.le_refl _) _⟩
  · cases h2 : inT a
    · have he := Lib.hid (show monE a s = 4 by unfold monE; rw [h1, h2]; rfl)
      rw [h1] at HC
      rw [h2] at HT
      clear h1 h2
      go_enter Tryz.func136, Tryz.ntmps136
      go_wp2_with fail
      refine (HC.out _).mono ?_
      rintro e w1 ⟨rfl, rfl⟩
      go_wp2_with fail
      refine (HT.out _).mono ?_
      rintro e w1 ⟨rfl, rfl⟩
      go_wp2_with fail
      go_ret
      exact ⟨by rw [he.out]; rfl, (Below.refl _ _).alloc (Nat.le_refl _) _⟩
    · have he := Lib.hid (show monE a s = 0 by unfold monE; rw [h1, h2]; rfl)
      rw [h1] at HC
      rw [h2] at HT
      clear h1 h2
      go_enter Tryz.func136, Tryz.ntmps136
      go_wp2_with fail
      refine (HC.out _).mono ?_
      rintro e w1 ⟨rfl, rfl⟩
      go_wp2_with fail
      refine (HT.out _).mono ?_
      rintro e w1 ⟨rfl, rfl⟩
      go_wp2_with fail
      go_ret
      exact ⟨by rw [he.out]; rfl, (Below.refl _ _).alloc (Nat.le_refl _) _⟩
end Go.Proofs.YthflmdgfenojcaaGreatDoor
