/- Part of the proof over this seat. -/
import Derived.Test.YthflmdgfenojcaaGreatDoorQNbr
import Derived.Test.YthflmdgfenojcaaGreatDoorQLex
namespace Go.Proofs.YthflmdgfenojcaaGreatDoor
set_option linter.unusedVariables false
open Go.RowKit
set_option maxHeartbeats 1600000 in
theorem bident_any (s : ByteArray) (w : World) (hs : s.size ≤ maxLen) : Calls Tryz.prog 102 #[.string s] w fun e w' => e = .returned (.bool (idB s)) ∧ w = w' := by
  by_cases h : 1 ≤ s.size ∧ s.size ≤ 16
  · obtain ⟨h1, h2⟩ := h
    have z1 : ¬ (s.size : Int) < 1 := by omega
    have z2 : ¬ (16 : Int) < (s.size : Int) := by omega
    have hno := Lib.hid (idB_no s)
    have hy := Lib.hid (idB_yes s h1 h2)
    unfold maxLen at hs
    go_enter Tryz.func102, Tryz.ntmps102
    go_wp2_with fail
    clear z1 z2
    go_loop [15] (fun i => ∃ k : Nat, k ≤ s.size ∧ i = .int .i64 k ∧ Hid (∀ j, j < k → (h' : j < s.size) → idnB (s[j]).toNat = true)) (fun i => s.size - (intOf i).toNat)
    case atStart => exact ⟨0, by omega, rfl, Lib.hid (fun j h _ => by omega)⟩
    case round =>
      obtain ⟨k, hk, rfl, hall⟩ := hrel
      by_cases hlt : k < s.size
      · have hstep := Lib.hid (fun (hw : idnB (s[k]).toNat = true) j (h : j < k + 1) (h' : j < s.size) => show idnB (s[j]).toNat = true from by
          rcases Nat.lt_or_ge j k with c | c
          · exact hall.out j c h'
          · obtain rfl : j = k := by omega
            exact hw)
        have hN := Lib.hid (fun h => hno.out k hlt h)
        have hI := Lib.hid (idnB_iff (s[k]).toNat)
        go_wp2_with fail
        all_goals first
          | (refine ⟨⟨k + 1, by omega, by go_num, Lib.hid (hstep.out (hI.out.2 (by simp at *; omega)))⟩, by simp [intOf]; omega⟩)
          | (go_ret
             refine ⟨?_, rfl⟩
             rw [hN.out (by cases hc : idnB (s[k]).toNat; rfl; exfalso; have := hI.out.1 hc; simp at *; omega)]; try rfl)
      · obtain rfl : k = s.size := by omega
        have hY := Lib.hid (hy.out (fun j h => hall.out j h h))
        go_wp2_with fail
        go_ret
        exact ⟨by rw [hY.out]; rfl, rfl⟩
  · have hno := Lib.hid (idB_size s h)
    have hc : (s.size : Int) < 1 ∨ (¬ (s.size : Int) < 1 ∧ (16 : Int) < (s.size : Int)) := by omega
    clear h hs
    rcases hc with q | ⟨q, q'⟩
    all_goals
      go_enter Tryz.func102, Tryz.ntmps102
      go_wp2_with fail
      go_ret
      exact ⟨by rw [hno.out]; rfl, rfl⟩
set_option maxHeartbeats 1600000 in
theorem bnum_any (s : ByteArray) (w : World) (hw : KW w) (hs : s.size ≤ 1000000) : Calls Tryz.prog 147 #[.string s] w (NumPost s w) := by
  have HP := Lib.hid (par_any s w hw hs)
  have HW := Lib.hid hw
  unfold ParPost at HP
  unfold NumPost
  clear hw
  go_enter Tryz.func147, Tryz.ntmps147
  go_wp2_with fail
  refine HP.out.mono ?_
  rintro e w1 ⟨hb, hc⟩
  have HB := Lib.hid hb
  have HW1 := Lib.hid (HW.out.below hb)
  clear hb
  rcases hc with ⟨v, hv, rfl⟩ | ⟨hn, v, t, p, rfl⟩
  · have HR := Lib.hid (parse_range hv)
    by_cases he : itoS v = s
    · have hq := ba_same (itoS v) s he
      have HN := Lib.hid (show numV s = v ∧ numOK s = true by
        unfold numV numOK numR
        rw [hv]
        simp only
        rw [if_pos (by rw [← he]; rfl)]
        exact ⟨rfl, rfl⟩)
      clear he hv
      go_wp2_with fail
      refine (fint_any v _ HW1.out.1 HR.out.1 HR.out.2).mono ?_
      rintro e w2 ⟨rfl, hb⟩
      have HB2 := Lib.hid (HB.out.trans (hb.mono HB.out.size))
      clear hb
      go_wp2_with fail
      go_ret2
      exact ⟨by rw [HN.out.1, HN.out.2]; rfl, HB2.out⟩
    · have hq := ba_diff (itoS v) s he
      have HN := Lib.hid (show numV s = 0 ∧ numOK s = false by
        unfold numV numOK numR
        rw [hv]
        simp only
        rw [if_neg (fun e => he (ByteArray.ext (by show (Lib.itoa v).toArray = s.data; rw [e])))]
        exact ⟨rfl, rfl⟩)
      clear he hv
      go_wp2_with fail
      refine (fint_any v _ HW1.out.1 HR.out.1 HR.out.2).mono ?_
      rintro e w2 ⟨rfl, hb⟩
      have HB2 := Lib.hid (HB.out.trans (hb.mono HB.out.size))
      clear hb
      go_wp2_with fail
      go_ret2
      exact ⟨by rw [HN.out.1, HN.out.2]; rfl, HB2.out⟩
  · have HN := Lib.hid (show numV s = 0 ∧ numOK s = false by unfold numV numOK; rw [hn]; exact ⟨rfl, rfl⟩)
    clear hn
    go_wp2_with fail
    go_ret2
    exact ⟨by rw [HN.out.1, HN.out.2]; rfl, HB.out⟩
end Go.Proofs.YthflmdgfenojcaaGreatDoor
