/- The reference's pan.Check. -/
import Derived.Test.YthflmdgfenojcaaGreatDoorPan
namespace Go.Proofs.YthflmdgfenojcaaGreatDoor
set_option linter.unusedVariables false
open Go.RowKit

set_option maxHeartbeats 1600000 in
theorem rDig_any (s : ByteArray) (w : World) (hs : s.size ≤ maxLen) : Calls Tryz.prog 139 #[.string s] w fun e w' => e = .returned (.bool (digsB s)) ∧ Below w.heap.size w w' := by
  unfold maxLen at hs
  have HNO := Lib.hid (fun k (h : k < s.size) hl => all_no (D := s) k h hl)
  have HYES := Lib.hid (fun h => all_yes (D := s) h)
  go_enter Tryz.func139, Tryz.ntmps139
  go_wp2_with fail
  go_loop [3] (fun i => ∃ k : Nat, k ≤ s.size ∧ i = .int .i64 k ∧ Hid (∀ j, (h : j < k) → (h' : j < s.size) → isDg (s[j]) = true)) (fun i => s.size - (intOf i).toNat)
  case atStart => exact ⟨0, Nat.zero_le _, rfl, Lib.hid (fun j h _ => by omega)⟩
  case round =>
    obtain ⟨k, hk, rfl, hall⟩ := hrel
    by_cases hlt : k < s.size
    · obtain ⟨c, hc⟩ : ∃ c, (s[k]).toNat = c := ⟨_, rfl⟩
      have hc8 : c < 256 := by rw [← hc]; exact UInt8.toNat_lt _
      have HC := Lib.hid hc
      by_cases h1 : c < 48
      · have HF := Lib.hid (HNO.out k hlt (by unfold isDg; rw [hc, decide_eq_false (by omega)]; rfl))
        have h1' : (c : Int) < 48 := by omega
        go_wp2_with fail
        go_ret
        exact ⟨by rw [HF.out]; rfl, Below.refl _ _⟩
      · by_cases h2 : 57 < c
        · have HF := Lib.hid (HNO.out k hlt (by unfold isDg; rw [hc, decide_eq_false (show ¬ c ≤ 57 by omega), Bool.and_false]))
          have h1' : ¬ (c : Int) < 48 := by omega
          have h2' : (57 : Int) < (c : Int) := by omega
          go_wp2_with fail
          go_ret
          exact ⟨by rw [HF.out]; rfl, Below.refl _ _⟩
        · have hN := Lib.hid (show ∀ j, (h : j < k + 1) → (h' : j < s.size) → isDg (s[j]) = true from fun j hj hj' => by
            rcases Nat.lt_or_ge j k with q | q
            · exact hall.out j q hj'
            · obtain rfl : j = k := by omega
              unfold isDg; rw [hc, decide_eq_true (by omega), decide_eq_true (by omega)]; rfl)
          have h1' : ¬ (c : Int) < 48 := by omega
          have h2' : ¬ (57 : Int) < (c : Int) := by omega
          go_wp2_with fail
          go_round
          case rel => exact ⟨k + 1, by omega, by go_num, hN⟩
          case measure => simp [intOf]; omega
    · obtain rfl : k = s.size := by omega
      have HT := Lib.hid (HYES.out (fun j h => hall.out j h h))
      go_wp2_with fail
      go_ret
      exact ⟨by rw [HT.out]; rfl, Below.refl _ _⟩
set_option maxHeartbeats 3200000 in
theorem rsum_any (s : ByteArray) (f : Nat) (w : World) (hs : s.size ≤ 1000) (hf : f = 1) (hd : digsB s = true) : Calls Tryz.prog 176 #[.string s, .int .i64 1] w fun e w' => e = .returned (.int .i64 (luT s s.size)) ∧ Below w.heap.size w w' := by
  have HD := Lib.hid (fun k h => digsB_at hd k h)
  have H0 : Hid (luT s 0 = 0) := Lib.hid rfl
  clear hd hf
  go_enter Tryz.func176, Tryz.ntmps176
  go_wp2_with fail
  go_loop [5, 6, 7] (fun vt vi _ => ∃ (k t : Nat), k ≤ s.size ∧ vi = .int .i64 k ∧ vt = .int .i64 t ∧ t ≤ 9 * k ∧ Hid (luT s k = t)) (fun _ vi _ => s.size - (intOf vi).toNat)
  case atStart => exact ⟨0, 0, Nat.zero_le _, rfl, rfl, by omega, H0⟩
  case round =>
    obtain ⟨k, t, hk, rfl, rfl, ht9, ht⟩ := hrel
    by_cases hp : k < s.size
    · obtain ⟨c, hc⟩ : ∃ c, (s[k]).toNat = c := ⟨_, rfl⟩
      have hdg := HD.out k hp
      have hst := luT_succ s k
      rw [byteAt_in hp, hc, ht.out] at hst
      rw [hc] at hdg
      obtain ⟨x, rfl⟩ : ∃ x, c = x + 48 := ⟨c - 48, by omega⟩
      rw [show x + 48 - 48 = x by omega] at hst
      have hx9 : x ≤ 9 := by omega
      have ex : IntKind.u8.wrap (((x + 48 : Nat) : Int) - 48) = (x : Int) := by simp [IntKind.wrap, IntKind.bits, IntKind.signed]; omega
      have hci : ((s[k]).toNat : Int) = ((x + 48 : Nat) : Int) := by rw [hc]
      obtain ⟨d, hdd⟩ : ∃ d, s.size - k = d := ⟨_, rfl⟩
      have ed : (s.size : Int) - 1 - (k : Int) + 1 = (d : Int) := by omega
      rw [hdd] at hst
      unfold luD at hst
      clear hc hdg
      by_cases h2 : d % 2 = 0
      · rw [if_pos h2] at hst
        have e2 : ((d : Int) % 2 == 0) = true := beq_iff_eq.2 (by omega)
        by_cases h9 : 9 < 2 * x
        · rw [if_pos h9] at hst
          have h9' : (9 : Int) < 2 * (x : Int) := by omega
          have HST := Lib.hid hst
          clear hst h2 h9 hdd
          go_wp2_with fail
          go_round
          case rel => exact ⟨k + 1, t + (2 * x - 9), by omega, by go_num, by go_num, by omega, HST⟩
          case measure => simp [intOf]; omega
        · rw [if_neg h9] at hst
          have h9' : ¬ (9 : Int) < 2 * (x : Int) := by omega
          have HST := Lib.hid hst
          clear hst h2 h9 hdd
          go_wp2_with fail
          go_round
          case rel => exact ⟨k + 1, t + 2 * x, by omega, by go_num, by go_num, by omega, HST⟩
          case measure => simp [intOf]; omega
      · rw [if_neg h2] at hst
        have e2 : ((d : Int) % 2 == 0) = false := beq_eq_false_iff_ne.2 (by omega)
        have HST := Lib.hid hst
        clear hst h2 hdd
        go_wp2_with fail
        go_round
        case rel => exact ⟨k + 1, t + x, by omega, by go_num, by go_num, by omega, HST⟩
        case measure => simp [intOf]; omega
    · obtain rfl : k = s.size := by omega
      go_wp2_with fail
      go_ret
      exact ⟨by rw [ht.out]; rfl, Below.refl _ _⟩
set_option maxHeartbeats 1600000 in
theorem rluhn_any (s : ByteArray) (w : World) (hs : s.size ≤ 1000) (h0 : 0 < s.size) : Calls Tryz.prog 140 #[.string s] w fun e w' => e = .returned (.bool (luhnB s)) ∧ Below w.heap.size w w' := by
  have HA := Lib.hid (fun W => rDig_any s W (by unfold maxLen; omega))
  have hsl : s.data.toList.length = s.size := by simp
  have hem : s.toList.isEmpty = false := by rw [ByteArray.toList_eq]; simpa using (show s.data.toList ≠ [] from fun e => by rw [e] at hsl; simp at hsl; omega)
  clear hsl
  cases hd : digsB s
  · have HF := Lib.hid (show luhnB s = false by unfold luhnB; rw [hd]; simp)
    rw [hd] at HA
    clear hd hs h0
    go_enter Tryz.func140, Tryz.ntmps140
    go_wp2_with fail
    refine (HA.out _).mono ?_
    rintro e w1 ⟨rfl, hb⟩
    have HB := Lib.hid hb
    clear hb
    go_wp2_with fail
    go_ret
    exact ⟨by rw [HF.out]; rfl, HB.out⟩
  · have HS := Lib.hid (fun W => rsum_any s 1 W hs (by omega) hd)
    have HL := luT_le hd s.size (Nat.le_refl _)
    have HV := Lib.hid (show luhnB s = decide (luT s s.size % 10 = 0) by unfold luhnB; rw [hd, decide_eq_true h0]; simp)
    rw [hd] at HA
    generalize luT s s.size = t at *
    by_cases hm : t % 10 = 0
    all_goals
      have hm' := congrArg (fun b : Bool => b) (show ((t : Int) % 10 == 0) = decide (t % 10 = 0) by rw [Bool.eq_iff_iff, beq_iff_eq, decide_eq_true_eq]; omega)
      first
        | rw [decide_eq_true hm] at HV hm'
        | rw [decide_eq_false hm] at HV hm'
      clear hd hs h0 hm
      go_enter Tryz.func140, Tryz.ntmps140
      go_wp2_with fail
      refine (HA.out _).mono ?_
      rintro e w1 ⟨rfl, hb⟩
      have HB := Lib.hid hb
      clear hb
      go_wp2_with fail
      refine (HS.out _).mono ?_
      rintro e w2 ⟨rfl, hb⟩
      have HB2 := Lib.hid (HB.out.trans (hb.mono HB.out.size))
      clear hb
      go_wp2_with fail
      go_ret
      exact ⟨by rw [HV.out]; rfl, HB2.out⟩
set_option maxHeartbeats 1600000 in
theorem rpan_any (s : ByteArray) (w : World) (hs : s.size ≤ maxLen) : Calls Tryz.prog 91 #[.string s] w fun e w' => e = .returned (.int .i64 (panE s)) ∧ Below w.heap.size w w' := by
  have HA := Lib.hid (fun W => rDig_any s W hs)
  unfold maxLen at hs
  by_cases h12 : s.size < 12
  · have HF := Lib.hid (show panE s = 1 by unfold panE; rw [if_pos h12])
    go_enter Tryz.func91, Tryz.ntmps91
    go_wp2_with fail
    go_ret
    exact ⟨by rw [HF.out]; rfl, Below.refl _ _⟩
  · by_cases h19 : 19 < s.size
    · have HF := Lib.hid (show panE s = 3 by unfold panE; rw [if_neg h12, if_pos h19])
      go_enter Tryz.func91, Tryz.ntmps91
      go_wp2_with fail
      go_ret
      exact ⟨by rw [HF.out]; rfl, Below.refl _ _⟩
    · cases hd : digsB s
      · have HF := Lib.hid (show panE s = 2 by unfold panE; rw [if_neg h12, if_neg h19, if_pos hd])
        rw [hd] at HA
        clear hd
        go_enter Tryz.func91, Tryz.ntmps91
        go_wp2_with fail
        refine (HA.out _).mono ?_
        rintro e w1 ⟨rfl, hb⟩
        have HB := Lib.hid hb
        clear hb
        go_wp2_with fail
        go_ret
        exact ⟨by rw [HF.out]; rfl, HB.out⟩
      · have HL := Lib.hid (fun W => rluhn_any s W (by omega) (by omega))
        rw [hd] at HA
        cases hl : luhnB s
        all_goals
          have HF := Lib.hid (show panE s = if luhnB s = false then 9 else 0 by unfold panE; rw [if_neg h12, if_neg h19, if_neg (by rw [hd]; simp)])
          rw [hl] at HF HL
          clear hl hd
          go_enter Tryz.func91, Tryz.ntmps91
          go_wp2_with fail
          refine (HA.out _).mono ?_
          rintro e w1 ⟨rfl, hb⟩
          have HB := Lib.hid hb
          clear hb
          go_wp2_with fail
          refine (HL.out _).mono ?_
          rintro e w2 ⟨rfl, hb⟩
          have HB2 := Lib.hid (HB.out.trans (hb.mono HB.out.size))
          clear hb
          go_wp2_with fail
          go_ret
          exact ⟨by rw [HF.out]; rfl, HB2.out⟩
end Go.Proofs.YthflmdgfenojcaaGreatDoor
