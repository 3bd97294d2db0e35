/- The reference's names, identifications, decimal texts. -/
import Derived.Test.YthflmdgfenojcaaGreatDoorLex
namespace Go.Proofs.YthflmdgfenojcaaGreatDoor
set_option linter.unusedVariables false
open Go.RowKit

theorem rletter_any (c : UInt8) (w : World) : Calls Tryz.prog 137 #[.int .u8 c.toNat] w fun e w' => e = .returned (.bool (letB c.toNat)) ∧ w = w' := by
  have hx : c.toNat < 256 := c.toNat_lt
  have HL := Lib.hid (letB_iff c.toNat)
  generalize c.toNat = x at *
  have hc : (97 ≤ x ∧ x ≤ 122) ∨ (97 ≤ x ∧ ¬ x ≤ 122 ∧ 65 ≤ x ∧ ¬ x ≤ 90) ∨ (¬ 97 ≤ x ∧ 65 ≤ x ∧ x ≤ 90) ∨ (¬ 97 ≤ x ∧ 65 ≤ x ∧ ¬ x ≤ 90) ∨ (¬ 97 ≤ x ∧ ¬ 65 ≤ x) := by omega
  rcases hc with ⟨q1, q2⟩ | ⟨q1, q2, q3, q4⟩ | ⟨q1, q3, q4⟩ | ⟨q1, q3, q4⟩ | ⟨q1, q3⟩
  · have HF := Lib.hid (show letB x = true from HL.out.2 (by omega))
    have d1 : decide ((97 : Int) ≤ (x : Int)) = true := decide_eq_true (by omega)
    have d2 : decide ((x : Int) ≤ 122) = true := decide_eq_true (by omega)
    go_enter Tryz.func137, Tryz.ntmps137
    go_wp2_with fail
    go_ret
    exact ⟨by rw [HF.out]; rfl, rfl⟩
  · have HF := Lib.hid (show letB x = false by cases h : letB x; rfl; exfalso; have := HL.out.1 h; omega)
    have d1 : decide ((97 : Int) ≤ (x : Int)) = true := decide_eq_true (by omega)
    have d2 : decide ((x : Int) ≤ 122) = false := decide_eq_false (by omega)
    have d3 : decide ((65 : Int) ≤ (x : Int)) = true := decide_eq_true (by omega)
    have d4 : decide ((x : Int) ≤ 90) = false := decide_eq_false (by omega)
    go_enter Tryz.func137, Tryz.ntmps137
    go_wp2_with fail
    go_ret
    exact ⟨by rw [HF.out]; rfl, rfl⟩
  · have HF := Lib.hid (show letB x = true from HL.out.2 (by omega))
    have d1 : decide ((97 : Int) ≤ (x : Int)) = false := decide_eq_false (by omega)
    have d3 : decide ((65 : Int) ≤ (x : Int)) = true := decide_eq_true (by omega)
    have d4 : decide ((x : Int) ≤ 90) = true := decide_eq_true (by omega)
    go_enter Tryz.func137, Tryz.ntmps137
    go_wp2_with fail
    go_ret
    exact ⟨by rw [HF.out]; rfl, rfl⟩
  · have HF := Lib.hid (show letB x = false by cases h : letB x; rfl; exfalso; have := HL.out.1 h; omega)
    have d1 : decide ((97 : Int) ≤ (x : Int)) = false := decide_eq_false (by omega)
    have d3 : decide ((65 : Int) ≤ (x : Int)) = true := decide_eq_true (by omega)
    have d4 : decide ((x : Int) ≤ 90) = false := decide_eq_false (by omega)
    go_enter Tryz.func137, Tryz.ntmps137
    go_wp2_with fail
    go_ret
    exact ⟨by rw [HF.out]; rfl, rfl⟩
  · have HF := Lib.hid (show letB x = false by cases h : letB x; rfl; exfalso; have := HL.out.1 h; omega)
    have d1 : decide ((97 : Int) ≤ (x : Int)) = false := decide_eq_false (by omega)
    have d3 : decide ((65 : Int) ≤ (x : Int)) = false := decide_eq_false (by omega)
    go_enter Tryz.func137, Tryz.ntmps137
    go_wp2_with fail
    go_ret
    exact ⟨by rw [HF.out]; rfl, rfl⟩
theorem rdigit_any (c : UInt8) (w : World) : Calls Tryz.prog 175 #[.int .u8 c.toNat] w fun e w' => e = .returned (.bool (digB c.toNat)) ∧ w = w' := by
  have hx : c.toNat < 256 := c.toNat_lt
  generalize c.toNat = x at *
  have hc : (48 ≤ x ∧ x ≤ 57) ∨ (48 ≤ x ∧ ¬ x ≤ 57) ∨ (¬ 48 ≤ x) := by omega
  rcases hc with ⟨q1, q2⟩ | ⟨q1, q2⟩ | q1
  · have HF := Lib.hid (show digB x = true by unfold digB; exact decide_eq_true ⟨q1, q2⟩)
    have d1 : decide ((48 : Int) ≤ (x : Int)) = true := decide_eq_true (by omega)
    have d2 : decide ((x : Int) ≤ 57) = true := decide_eq_true (by omega)
    go_enter Tryz.func175, Tryz.ntmps175
    go_wp2_with fail
    go_ret
    exact ⟨by rw [HF.out]; rfl, rfl⟩
  · have HF := Lib.hid (show digB x = false by unfold digB; exact decide_eq_false (fun h => q2 h.2))
    have d1 : decide ((48 : Int) ≤ (x : Int)) = true := decide_eq_true (by omega)
    have d2 : decide ((x : Int) ≤ 57) = false := decide_eq_false (by omega)
    go_enter Tryz.func175, Tryz.ntmps175
    go_wp2_with fail
    go_ret
    exact ⟨by rw [HF.out]; rfl, rfl⟩
  · have HF := Lib.hid (show digB x = false by unfold digB; exact decide_eq_false (fun h => q1 h.1))
    have d1 : decide ((48 : Int) ≤ (x : Int)) = false := decide_eq_false (by omega)
    go_enter Tryz.func175, Tryz.ntmps175
    go_wp2_with fail
    go_ret
    exact ⟨by rw [HF.out]; rfl, rfl⟩
/-- The end of the word at the beginning. -/
def RWordPost (s : ByteArray) (w : World) (e : Ending) (w' : World) : Prop :=
  w = w' ∧ ∃ n : Nat, n ≤ s.size ∧ e = .returned (.int .i64 n) ∧ (∀ j, (h : j < n) → (h' : j < s.size) → wrdB (s[j]).toNat = true) ∧ ((h : n < s.size) → wrdB (s[n]).toNat = false)
theorem wrdB_or (x : Nat) : wrdB x = (letB x || (digB x || decide (x = 95))) := by
  unfold wrdB
  rw [Bool.or_assoc]; congr 1
set_option maxHeartbeats 1600000 in
theorem rword_any (s : ByteArray) (w : World) (hs : s.size ≤ maxLen) : Calls Tryz.prog 138 #[.string s, .int .i64 0] w (RWordPost s w) := by
  unfold maxLen at hs
  go_enter Tryz.func138, Tryz.ntmps138
  go_wp2_with fail
  go_loop [1] (fun i => ∃ k : Nat, k ≤ s.size ∧ i = .int .i64 k ∧ Hid (∀ j, (h : j < k) → (h' : j < s.size) → wrdB (s[j]).toNat = true)) (fun i => s.size - (intOf i).toNat)
  case atStart => exact ⟨0, by omega, rfl, Lib.hid (fun j h _ => by omega)⟩
  case round =>
    obtain ⟨k, hk, rfl, hall⟩ := hrel
    by_cases hlt : k < s.size
    · have hl := Lib.hid (rletter_any s[k] w)
      have hd := Lib.hid (rdigit_any s[k] w)
      have hor := wrdB_or (s[k]).toNat
      have k0 : (0 : Int) ≤ (k : Int) := by omega
      have hstep := Lib.hid (fun (hw : wrdB (s[k]).toNat = true) j (h : j < k + 1) (h' : j < s.size) => show wrdB (s[j]).toNat = true from by
        rcases Nat.lt_or_ge j k with c | c
        · exact hall.out j c h'
        · obtain rfl : j = k := by omega
          exact hw)
      cases h1 : letB (s[k]).toNat with
      | true =>
        have hN := Lib.hid (hstep.out (by rw [hor, h1]; rfl))
        rw [h1] at hl
        clear h1 hor hstep
        go_wp2_with fail
        refine hl.out.mono ?_
        rintro e w' ⟨rfl, rfl⟩
        go_wp2_with fail
        go_round
        case rel => exact ⟨k + 1, by omega, by go_num, hN⟩
        case measure => simp [intOf]; omega
      | false =>
        rw [h1] at hl
        cases h2 : digB (s[k]).toNat with
        | true =>
          have hN := Lib.hid (hstep.out (by rw [hor, h1, h2]; rfl))
          rw [h2] at hd
          clear h1 h2 hor hstep
          go_wp2_with fail
          refine hl.out.mono ?_
          rintro e w' ⟨rfl, rfl⟩
          go_wp2_with fail
          refine hd.out.mono ?_
          rintro e w' ⟨rfl, rfl⟩
          go_wp2_with fail
          go_round
          case rel => exact ⟨k + 1, by omega, by go_num, hN⟩
          case measure => simp [intOf]; omega
        | false =>
          rw [h2] at hd
          by_cases h3 : (s[k]).toNat = 95
          · have hN := Lib.hid (hstep.out (by rw [hor, h1, h2, decide_eq_true h3]; rfl))
            have q : (((s[k]).toNat : Int) == 95) = true := by rw [h3]; rfl
            clear h1 h2 h3 hor hstep
            go_wp2_with fail
            refine hl.out.mono ?_
            rintro e w' ⟨rfl, rfl⟩
            go_wp2_with fail
            refine hd.out.mono ?_
            rintro e w' ⟨rfl, rfl⟩
            go_wp2_with fail
            go_round
            case rel => exact ⟨k + 1, by omega, by go_num, hN⟩
            case measure => simp [intOf]; omega
          · have hN := Lib.hid (show wrdB (s[k]).toNat = false by rw [hor, h1, h2, decide_eq_false h3]; rfl)
            have q : (((s[k]).toNat : Int) == 95) = false := by simp; omega
            clear h1 h2 h3 hor hstep
            go_wp2_with fail
            refine hl.out.mono ?_
            rintro e w' ⟨rfl, rfl⟩
            go_wp2_with fail
            refine hd.out.mono ?_
            rintro e w' ⟨rfl, rfl⟩
            go_wp2_with fail
            go_ret
            exact ⟨rfl, k, hk, rfl, hall.out, fun _ => hN.out⟩
    · obtain rfl : k = s.size := by omega
      go_wp2_with fail
      go_ret
      exact ⟨rfl, s.size, Nat.le_refl _, rfl, hall.out, fun h => by omega⟩
set_option maxHeartbeats 1600000 in
theorem rname_any (s : ByteArray) (w : World) (hs : s.size ≤ maxLen) : Calls Tryz.prog 90 #[.string s] w fun e w' => e = .returned (.bool (nameB s.data.toList)) ∧ w = w' := by
  have hwd := Lib.hid (rword_any s w hs)
  unfold maxLen at hs
  by_cases h0 : 1 ≤ s.size
  case neg =>
    have hno := Lib.hid (nameB_size s (by omega))
    obtain rfl : s = ⟨#[]⟩ := ByteArray.ext (Array.eq_empty_of_size_eq_zero (by show s.size = 0; omega))
    clear hwd h0
    go_enter Tryz.func90, Tryz.ntmps90
    go_wp2_with fail
    go_ret
    exact ⟨by rw [hno.out]; rfl, rfl⟩
  have hne : (s.toList == []) = false := by
    rw [ByteArray.toList_eq, beq_eq_false_iff_ne]
    intro e
    have e1 : s.data.toList.length = 0 := by rw [e]; rfl
    have e2 : s.data.toList.length = s.size := by simp
    omega
  have hne2 : s.toList.isEmpty = false := by simpa using hne
  have hne3 : s.toList ≠ [] := by simpa using hne
  by_cases h16 : s.size ≤ 16
  case neg =>
    have hno := Lib.hid (nameB_size s (by omega))
    have d16 : decide ((s.size : Int) ≤ 16) = false := decide_eq_false (by omega)
    go_enter Tryz.func90, Tryz.ntmps90
    go_wp2_with fail
    go_ret
    exact ⟨by rw [hno.out]; rfl, rfl⟩
  have d16 : decide ((s.size : Int) ≤ 16) = true := decide_eq_true (by omega)
  have hl := Lib.hid (rletter_any s[0] w)
  have hy := Lib.hid (nameB_yes s h0 h16)
  have hnw := Lib.hid (nameB_wrd s)
  cases h1 : letB (s[0]).toNat with
  | false =>
    have hno := Lib.hid (nameB_let s h0 h1)
    rw [h1] at hl
    clear h1
    go_enter Tryz.func90, Tryz.ntmps90
    go_wp2_with fail
    refine hl.out.mono ?_
    rintro e w' ⟨rfl, rfl⟩
    go_wp2_with fail
    go_ret
    exact ⟨by rw [hno.out]; rfl, rfl⟩
  | true =>
    have q1 := Lib.hid h1
    rw [h1] at hl
    clear h1
    go_enter Tryz.func90, Tryz.ntmps90
    go_wp2_with fail
    refine hl.out.mono ?_
    rintro e w' ⟨rfl, rfl⟩
    go_wp2_with fail
    refine hwd.out.mono ?_
    rintro e w' ⟨rfl, n, hn, rfl, hall, hend⟩
    rcases Nat.lt_or_eq_of_le hn with c | c
    · have hno := Lib.hid (hnw.out n c (hend c))
      have hq : ((n : Int) == (s.size : Int)) = false := beq_eq_false_iff_ne.2 (by omega)
      clear hall hend
      go_wp2_with fail
      go_ret
      exact ⟨by rw [hno.out]; first | rfl | simp [hq], rfl⟩
    · have hyy := Lib.hid (hy.out q1.out (fun j hj => hall j (by omega) hj))
      clear hall hend
      subst c
      have hq : ((s.size : Int) == (s.size : Int)) = true := by simp
      go_wp2_with fail
      go_ret
      exact ⟨by rw [hyy.out]; first | rfl | simp, rfl⟩
set_option maxHeartbeats 3200000 in
theorem rident_any (s : ByteArray) (w : World) (hs : s.size ≤ maxLen) : Calls Tryz.prog 89 #[.string s] w fun e w' => e = .returned (.bool (idB s)) ∧ w = w' := by
  have hno := Lib.hid (idB_no s)
  have hsz := Lib.hid (idB_size s)
  have hyes := Lib.hid (idB_yes s)
  unfold maxLen at hs
  go_enter Tryz.func89, Tryz.ntmps89
  go_wp2_with fail
  go_loop [3] (fun i => ∃ k : Nat, k ≤ s.size ∧ i = .int .i64 k ∧ Hid (∀ j, j < k → (h' : j < s.size) → idnB (s[j]).toNat = true)) (fun i => s.size - (intOf i).toNat)
  case atStart => exact ⟨0, by omega, rfl, Lib.hid (fun j h _ => by omega)⟩
  case round =>
    obtain ⟨k, hk, rfl, hall⟩ := hrel
    by_cases hlt : k < s.size
    · have hstep := Lib.hid (fun (hw : idnB (s[k]).toNat = true) j (h : j < k + 1) (h' : j < s.size) => show idnB (s[j]).toNat = true from by
        rcases Nat.lt_or_ge j k with c | c
        · exact hall.out j c h'
        · obtain rfl : j = k := by omega
          exact hw)
      have hN := Lib.hid (fun h => hno.out k hlt h)
      have hI := Lib.hid (idnB_iff (s[k]).toNat)
      go_wp2_with fail
      all_goals first
        | (refine ⟨⟨k + 1, by omega, by go_num, Lib.hid (hstep.out (hI.out.2 (by simp at *; omega)))⟩, by simp [intOf]; omega⟩)
        | (go_ret
           refine ⟨?_, rfl⟩
           rw [hN.out (by cases hc : idnB (s[k]).toNat; rfl; exfalso; have := hI.out.1 hc; simp at *; omega)]; try rfl)
    · obtain rfl : k = s.size := by omega
      have hA := Lib.hid (fun j (h : j < s.size) => hall.out j h h)
      have hc : (¬ 1 ≤ s.size) ∨ (1 ≤ s.size ∧ ¬ s.size ≤ 16) ∨ (1 ≤ s.size ∧ s.size ≤ 16) := by omega
      rcases hc with q | ⟨q, q'⟩ | ⟨q, q'⟩
      · have hF := Lib.hid (hsz.out (fun h => q h.1))
        have d1 : decide ((1 : Int) ≤ (s.size : Int)) = false := decide_eq_false (by omega)
        go_wp2_with fail
        go_ret
        exact ⟨by rw [hF.out]; rfl, rfl⟩
      · have hF := Lib.hid (hsz.out (fun h => q' h.2))
        have d1 : decide ((1 : Int) ≤ (s.size : Int)) = true := decide_eq_true (by omega)
        have d2 : decide ((s.size : Int) ≤ 16) = false := decide_eq_false (by omega)
        go_wp2_with fail
        go_ret
        exact ⟨by rw [hF.out]; rfl, rfl⟩
      · have hF := Lib.hid (hyes.out q q' (fun j h => hA.out j h))
        have d1 : decide ((1 : Int) ≤ (s.size : Int)) = true := decide_eq_true (by omega)
        have d2 : decide ((s.size : Int) ≤ 16) = true := decide_eq_true (by omega)
        go_wp2_with fail
        go_ret
        exact ⟨by rw [hF.out]; rfl, rfl⟩
end Go.Proofs.YthflmdgfenojcaaGreatDoor
