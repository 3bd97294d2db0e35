/- The walks of scheme.isName and whole. -/
import Derived.Test.YtfhiepcjkocnlaaNam
import Derived.Test.YtfhiepcjkocnlaaFee
namespace Go.Proofs.Ytfhiepcjkocnlaa
set_option linter.unusedVariables false
open Go.RowKit

set_option maxHeartbeats 3200000 in
theorem sname_any (s : ByteArray) (w : World) (hs : s.size ≤ maxLen) : Calls Try.prog 29 #[.string s] w fun e w' => e = .returned (.bool (nameB s.data.toList)) ∧ w = w' := by
  unfold maxLen at hs
  by_cases hz : 1 ≤ s.size ∧ s.size ≤ 16
  · obtain ⟨z1, z2⟩ := hz
    have hd1 : ¬ (s.size : Int) < 1 := by omega
    have hd2 : ¬ (16 : Int) < (s.size : Int) := by omega
    go_enter Try.func29, Try.ntmps29
    go_wp2_with fail
    go_loop [16] (fun i => ∃ k : Nat, k ≤ s.size ∧ i = .int .i64 k ∧ Hid (∀ j, (h' : j < s.size) → j < k → wrdB (s[j]).toNat = true) ∧ Hid (0 < k → letB (s[0]).toNat = true)) (fun i => s.size - (intOf i).toNat)
    case atStart => exact ⟨0, Nat.zero_le _, rfl, Lib.hid (fun j h q => by omega), Lib.hid (fun q => by omega)⟩
    case round =>
      obtain ⟨k, hk, rfl, hall, hfst⟩ := hrel
      by_cases hlt : k < s.size
      · obtain ⟨c, hc⟩ : ∃ c, (s[k]).toNat = c := ⟨_, rfl⟩
        have hc8 : c < 256 := by rw [← hc]; exact UInt8.toNat_lt _
        have HC := Lib.hid hc
        have HW := Lib.hid (fun h : wrdB c = true => show ∀ j, (h' : j < s.size) → j < k + 1 → wrdB (s[j]).toNat = true from fun j h' hj => by
          rcases Nat.lt_or_ge j k with q | q
          · exact hall.out j h' q
          · obtain rfl : j = k := by omega
            rw [hc]; exact h)
        have HL := Lib.hid (fun h : k = 0 → letB c = true => show 0 < k + 1 → letB (s[0]).toNat = true from fun _ => by
          rcases Nat.eq_zero_or_pos k with q | q
          · have := h q
            rw [← hc] at this
            subst q
            exact this
          · exact hfst.out q)
        have HN0 := Lib.hid (fun (q : k = 0) (h : letB c = false) => show nameB s.data.toList = false from nameB_let s (by omega) (by rw [← hc] at h; subst q; exact h))
        have HNW := Lib.hid (fun h : wrdB c = false => nameB_wrd s k hlt (by rw [hc]; exact h))
        have hcase : ((97 ≤ (c : Int) ∧ (c : Int) ≤ 122) ∨ ((c : Int) < 97 ∧ 65 ≤ (c : Int) ∧ (c : Int) ≤ 90)) ∨ (letB c = false ∧ (((c : Int) < 97 ∧ (c : Int) < 65) ∨ ((c : Int) < 97 ∧ 65 ≤ (c : Int) ∧ 90 < (c : Int) ∧ decide ((c : Int) ≤ 90) = false) ∨ (97 ≤ (c : Int) ∧ 122 < (c : Int) ∧ decide ((c : Int) ≤ 122) = false ∧ decide ((c : Int) ≤ 90) = false ∧ 65 ≤ (c : Int)))) := by
          by_cases h : letB c = true
          · left
            simp [letB] at h
            omega
          · right
            have hf : letB c = false := by simpa using h
            refine ⟨hf, ?_⟩
            simp [letB] at h
            by_cases p1 : 97 ≤ (c : Int)
            · exact .inr (.inr ⟨p1, by omega, decide_eq_false (by omega), decide_eq_false (by omega), by omega⟩)
            · by_cases p2 : 65 ≤ (c : Int)
              · exact .inr (.inl ⟨by omega, p2, by omega, decide_eq_false (by omega)⟩)
              · exact .inl ⟨by omega, by omega⟩
        rcases hcase with hcase | ⟨hnl, hcase⟩
        · have hl : letB c = true := by simp [letB]; omega
          have HW' := Lib.hid (HW.out (by unfold wrdB; rw [hl]; rfl))
          have HL' := Lib.hid (HL.out (fun _ => hl))
          clear hl
          rcases hcase with ⟨q1, q2⟩ | ⟨q1, q2, q3⟩
          all_goals
            go_wp2_with fail
            go_round
            case rel => exact ⟨k + 1, by omega, by go_num, HW', HL'⟩
            case measure => simp [intOf]; omega
        · rcases Nat.eq_zero_or_pos k with hk0 | hk0
          · have HF := Lib.hid (HN0.out hk0 hnl)
            have k0 : ((k : Int) == 0) = true := beq_iff_eq.2 (by omega)
            clear hnl hk0
            rcases hcase with ⟨q1, q2⟩ | ⟨q1, q2, q3, qd⟩ | ⟨q1, q2, qd, qe, qf⟩
            all_goals
              go_wp2_with fail
              go_ret
              exact ⟨by rw [HF.out]; rfl, rfl⟩
          · have k0 : ((k : Int) == 0) = false := beq_eq_false_iff_ne.2 (by omega)
            by_cases h95 : c = 95
            · have hw := Lib.hid (HW.out (by subst h95; rfl))
              have hl := Lib.hid (HL.out (fun q => by omega))
              have b95 : ((c : Int) != 95) = false := by simp only [bne_eq_false_iff_eq]; omega
              clear hnl h95
              rcases hcase with ⟨q1, q2⟩ | ⟨q1, q2, q3, qd⟩ | ⟨q1, q2, qd, qe, qf⟩
              all_goals
                go_wp2_with fail
                go_round
                case rel => exact ⟨k + 1, by omega, by go_num, hw, hl⟩
                case measure => simp [intOf]; omega
            · have b95 : ((c : Int) != 95) = true := bne_iff_ne.2 (by omega)
              by_cases hdg : 48 ≤ c ∧ c ≤ 57
              · have hw := Lib.hid (HW.out (by unfold wrdB digB; rw [decide_eq_true hdg]; simp))
                have hl := Lib.hid (HL.out (fun q => by omega))
                have q1 : (c : Int) < 97 := by omega
                have q2 : (c : Int) < 65 := by omega
                have q3 : ¬ (c : Int) < 48 := by omega
                have q4 : ¬ 57 < (c : Int) := by omega
                clear hnl h95 hcase hdg
                go_wp2_with fail
                go_round
                case rel => exact ⟨k + 1, by omega, by go_num, hw, hl⟩
                case measure => simp [intOf]; omega
              · have HF := Lib.hid (HNW.out (by unfold wrdB digB; rw [hnl, decide_eq_false hdg]; simp; exact h95))
                have hdd : (c : Int) < 48 ∨ (48 ≤ (c : Int) ∧ 57 < (c : Int)) := by omega
                clear hnl h95 hdg
                rcases hdd with q4 | ⟨q4, q5⟩
                all_goals
                  rcases hcase with ⟨q1, q2⟩ | ⟨q1, q2, q3, qd⟩ | ⟨q1, q2, qd, qe, qf⟩
                all_goals
                  first
                  | (exfalso; omega)
                  | (go_wp2_with fail
                     go_ret
                     exact ⟨by rw [HF.out]; rfl, rfl⟩)
      · obtain rfl : k = s.size := by omega
        have HT := Lib.hid (nameB_yes s z1 z2 (hfst.out (by omega)) (fun j h => hall.out j h h))
        go_wp2_with fail
        go_ret
        exact ⟨by rw [HT.out]; rfl, rfl⟩
  · have HF := Lib.hid (nameB_size s hz)
    have hdd : (s.size : Int) < 1 ∨ (¬ (s.size : Int) < 1 ∧ 16 < (s.size : Int)) := by omega
    clear hz
    rcases hdd with q | ⟨q, q'⟩
    all_goals
      go_enter Try.func29, Try.ntmps29
      go_wp2_with fail
      go_ret
      exact ⟨by rw [HF.out]; rfl, rfl⟩
end Go.Proofs.Ytfhiepcjkocnlaa
