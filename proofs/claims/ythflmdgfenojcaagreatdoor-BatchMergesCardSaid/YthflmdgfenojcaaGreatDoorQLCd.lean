/- Part of the proof over this seat. -/
import Derived.Laws.Concat
import Derived.Deep.LoopGhost
import Derived.Lib.ItoaWalk
import Derived.Lib.ItoaLen
import Derived.Deep.QuietTactic
import Derived.BigQuiet
import Derived.Outline
import Derived.Test.YthflmdgfenojcaaGreatDoorQLex
import Derived.Test.YthflmdgfenojcaaGreatDoorQPan
import Derived.Test.YthflmdgfenojcaaGreatDoorQMon
import Derived.Test.YthflmdgfenojcaaGreatDoorQAw
import Derived.Test.YthflmdgfenojcaaGreatDoorQNbr
import Derived.Test.YthflmdgfenojcaaGreatDoorQFew
import Derived.Test.YthflmdgfenojcaaGreatDoorQBen
import Derived.Test.YthflmdgfenojcaaGreatDoorQLDe
import Derived.Test.YthflmdgfenojcaaGreatDoorQHo
namespace Go.Proofs.YthflmdgfenojcaaGreatDoor
set_option linter.unusedVariables false
open Go.RowKit
theorem rletter_any (c : UInt8) (w : World) : Calls Tryz.prog 137 #[.int .u8 c.toNat] w fun e w' => e = .returned (.bool (letB c.toNat)) ∧ w = w' := by
  have hx : c.toNat < 256 := c.toNat_lt
  have HL := Lib.hid (letB_iff c.toNat)
  generalize c.toNat = x at *
  have hc : (97 ≤ x ∧ x ≤ 122) ∨ (97 ≤ x ∧ ¬ x ≤ 122 ∧ 65 ≤ x ∧ ¬ x ≤ 90) ∨ (¬ 97 ≤ x ∧ 65 ≤ x ∧ x ≤ 90) ∨ (¬ 97 ≤ x ∧ 65 ≤ x ∧ ¬ x ≤ 90) ∨ (¬ 97 ≤ x ∧ ¬ 65 ≤ x) := by omega
  rcases hc with ⟨q1, q2⟩ | ⟨q1, q2, q3, q4⟩ | ⟨q1, q3, q4⟩ | ⟨q1, q3, q4⟩ | ⟨q1, q3⟩
  · have HF := Lib.hid (show letB x = true from HL.out.2 (by omega))
    have d1 : decide ((97 : Int) ≤ (x : Int)) = true := decide_eq_true (by omega)
    have d2 : decide ((x : Int) ≤ 122) = true := decide_eq_true (by omega)
    go_enter Tryz.func137, Tryz.ntmps137
    go_wp2_with fail
    go_ret
    exact ⟨by rw [HF.out]; rfl, rfl⟩
  · have HF := Lib.hid (show letB x = false by cases h : letB x; rfl; exfalso; have := HL.out.1 h; omega)
    have d1 : decide ((97 : Int) ≤ (x : Int)) = true := decide_eq_true (by omega)
    have d2 : decide ((x : Int) ≤ 122) = false := decide_eq_false (by omega)
    have d3 : decide ((65 : Int) ≤ (x : Int)) = true := decide_eq_true (by omega)
    have d4 : decide ((x : Int) ≤ 90) = false := decide_eq_false (by omega)
    go_enter Tryz.func137, Tryz.ntmps137
    go_wp2_with fail
    go_ret
    exact ⟨by rw [HF.out]; rfl, rfl⟩
  · have HF := Lib.hid (show letB x = true from HL.out.2 (by omega))
    have d1 : decide ((97 : Int) ≤ (x : Int)) = false := decide_eq_false (by omega)
    have d3 : decide ((65 : Int) ≤ (x : Int)) = true := decide_eq_true (by omega)
    have d4 : decide ((x : Int) ≤ 90) = true := decide_eq_true (by omega)
    go_enter Tryz.func137, Tryz.ntmps137
    go_wp2_with fail
    go_ret
    exact ⟨by rw [HF.out]; rfl, rfl⟩
  · have HF := Lib.hid (show letB x = false by cases h : letB x; rfl; exfalso; have := HL.out.1 h; omega)
    have d1 : decide ((97 : Int) ≤ (x : Int)) = false := decide_eq_false (by omega)
    have d3 : decide ((65 : Int) ≤ (x : Int)) = true := decide_eq_true (by omega)
    have d4 : decide ((x : Int) ≤ 90) = false := decide_eq_false (by omega)
    go_enter Tryz.func137, Tryz.ntmps137
    go_wp2_with fail
    go_ret
    exact ⟨by rw [HF.out]; rfl, rfl⟩
  · have HF := Lib.hid (show letB x = false by cases h : letB x; rfl; exfalso; have := HL.out.1 h; omega)
    have d1 : decide ((97 : Int) ≤ (x : Int)) = false := decide_eq_false (by omega)
    have d3 : decide ((65 : Int) ≤ (x : Int)) = false := decide_eq_false (by omega)
    go_enter Tryz.func137, Tryz.ntmps137
    go_wp2_with fail
    go_ret
    exact ⟨by rw [HF.out]; rfl, rfl⟩
theorem rdigit_any (c : UInt8) (w : World) : Calls Tryz.prog 175 #[.int .u8 c.toNat] w fun e w' => e = .returned (.bool (digB c.toNat)) ∧ w = w' := by
  have hx : c.toNat < 256 := c.toNat_lt
  generalize c.toNat = x at *
  have hc : (48 ≤ x ∧ x ≤ 57) ∨ (48 ≤ x ∧ ¬ x ≤ 57) ∨ (¬ 48 ≤ x) := by omega
  rcases hc with ⟨q1, q2⟩ | ⟨q1, q2⟩ | q1
  · have HF := Lib.hid (show digB x = true by unfold digB; exact decide_eq_true ⟨q1, q2⟩)
    have d1 : decide ((48 : Int) ≤ (x : Int)) = true := decide_eq_true (by omega)
    have d2 : decide ((x : Int) ≤ 57) = true := decide_eq_true (by omega)
    go_enter Tryz.func175, Tryz.ntmps175
    go_wp2_with fail
    go_ret
    exact ⟨by rw [HF.out]; rfl, rfl⟩
  · have HF := Lib.hid (show digB x = false by unfold digB; exact decide_eq_false (fun h => q2 h.2))
    have d1 : decide ((48 : Int) ≤ (x : Int)) = true := decide_eq_true (by omega)
    have d2 : decide ((x : Int) ≤ 57) = false := decide_eq_false (by omega)
    go_enter Tryz.func175, Tryz.ntmps175
    go_wp2_with fail
    go_ret
    exact ⟨by rw [HF.out]; rfl, rfl⟩
  · have HF := Lib.hid (show digB x = false by unfold digB; exact decide_eq_false (fun h => q1 h.1))
    have d1 : decide ((48 : Int) ≤ (x : Int)) = false := decide_eq_false (by omega)
    go_enter Tryz.func175, Tryz.ntmps175
    go_wp2_with fail
    go_ret
    exact ⟨by rw [HF.out]; rfl, rfl⟩
/-- The end of the word at the beginning. -/
def RWordPost (s : ByteArray) (w : World) (e : Ending) (w' : World) : Prop :=
  w = w' ∧ ∃ n : Nat, n ≤ s.size ∧ e = .returned (.int .i64 n) ∧ (∀ j, (h : j < n) → (h' : j < s.size) → wrdB (s[j]).toNat = true) ∧ ((h : n < s.size) → wrdB (s[n]).toNat = false)
theorem wrdB_or (x : Nat) : wrdB x = (letB x || (digB x || decide (x = 95))) := by
  unfold wrdB
  rw [Bool.or_assoc]; congr 1
set_option maxHeartbeats 1600000 in
theorem rword_any (s : ByteArray) (w : World) (hs : s.size ≤ maxLen) : Calls Tryz.prog 138 #[.string s, .int .i64 0] w (RWordPost s w) := by
  unfold maxLen at hs
  go_enter Tryz.func138, Tryz.ntmps138
  go_wp2_with fail
  go_loop [1] (fun i => ∃ k : Nat, k ≤ s.size ∧ i = .int .i64 k ∧ Hid (∀ j, (h : j < k) → (h' : j < s.size) → wrdB (s[j]).toNat = true)) (fun i => s.size - (intOf i).toNat)
  case atStart => exact ⟨0, by omega, rfl, Lib.hid (fun j h _ => by omega)⟩
  case round =>
    obtain ⟨k, hk, rfl, hall⟩ := hrel
    by_cases hlt : k < s.size
    · have hl := Lib.hid (rletter_any s[k] w)
      have hd := Lib.hid (rdigit_any s[k] w)
      have hor := wrdB_or (s[k]).toNat
      have k0 : (0 : Int) ≤ (k : Int) := by omega
      have hstep := Lib.hid (fun (hw : wrdB (s[k]).toNat = true) j (h : j < k + 1) (h' : j < s.size) => show wrdB (s[j]).toNat = true from by
        rcases Nat.lt_or_ge j k with c | c
        · exact hall.out j c h'
        · obtain rfl : j = k := by omega
          exact hw)
      cases h1 : letB (s[k]).toNat with
      | true =>
        have hN := Lib.hid (hstep.out (by rw [hor, h1]; rfl))
        rw [h1] at hl
        clear h1 hor hstep
        go_wp2_with fail
        refine hl.out.mono ?_
        rintro e w' ⟨rfl, rfl⟩
        go_wp2_with fail
        go_round
        case rel => exact ⟨k + 1, by omega, by go_num, hN⟩
        case measure => simp [intOf]; omega
      | false =>
        rw [h1] at hl
        cases h2 : digB (s[k]).toNat with
        | true =>
          have hN := Lib.hid (hstep.out (by rw [hor, h1, h2]; rfl))
          rw [h2] at hd
          clear h1 h2 hor hstep
          go_wp2_with fail
          refine hl.out.mono ?_
          rintro e w' ⟨rfl, rfl⟩
          go_wp2_with fail
          refine hd.out.mono ?_
          rintro e w' ⟨rfl, rfl⟩
          go_wp2_with fail
          go_round
          case rel => exact ⟨k + 1, by omega, by go_num, hN⟩
          case measure => simp [intOf]; omega
        | false =>
          rw [h2] at hd
          by_cases h3 : (s[k]).toNat = 95
          · have hN := Lib.hid (hstep.out (by rw [hor, h1, h2, decide_eq_true h3]; rfl))
            have q : (((s[k]).toNat : Int) == 95) = true := by rw [h3]; rfl
            clear h1 h2 h3 hor hstep
            go_wp2_with fail
            refine hl.out.mono ?_
            rintro e w' ⟨rfl, rfl⟩
            go_wp2_with fail
            refine hd.out.mono ?_
            rintro e w' ⟨rfl, rfl⟩
            go_wp2_with fail
            go_round
            case rel => exact ⟨k + 1, by omega, by go_num, hN⟩
            case measure => simp [intOf]; omega
          · have hN := Lib.hid (show wrdB (s[k]).toNat = false by rw [hor, h1, h2, decide_eq_false h3]; rfl)
            have q : (((s[k]).toNat : Int) == 95) = false := by simp; omega
            clear h1 h2 h3 hor hstep
            go_wp2_with fail
            refine hl.out.mono ?_
            rintro e w' ⟨rfl, rfl⟩
            go_wp2_with fail
            refine hd.out.mono ?_
            rintro e w' ⟨rfl, rfl⟩
            go_wp2_with fail
            go_ret
            exact ⟨rfl, k, hk, rfl, hall.out, fun _ => hN.out⟩
    · obtain rfl : k = s.size := by omega
      go_wp2_with fail
      go_ret
      exact ⟨rfl, s.size, Nat.le_refl _, rfl, hall.out, fun h => by omega⟩
set_option maxHeartbeats 1600000 in
theorem rname_any (s : ByteArray) (w : World) (hs : s.size ≤ maxLen) : Calls Tryz.prog 90 #[.string s] w fun e w' => e = .returned (.bool (nameB s.data.toList)) ∧ w = w' := by
  have hwd := Lib.hid (rword_any s w hs)
  unfold maxLen at hs
  by_cases h0 : 1 ≤ s.size
  case neg =>
    have hno := Lib.hid (nameB_size s (by omega))
    obtain rfl : s = ⟨#[]⟩ := ByteArray.ext (Array.eq_empty_of_size_eq_zero (by show s.size = 0; omega))
    clear hwd h0
    go_enter Tryz.func90, Tryz.ntmps90
    go_wp2_with fail
    go_ret
    exact ⟨by rw [hno.out]; rfl, rfl⟩
  have hne : (s.toList == []) = false := by
    rw [ByteArray.toList_eq, beq_eq_false_iff_ne]
    intro e
    have e1 : s.data.toList.length = 0 := by rw [e]; rfl
    have e2 : s.data.toList.length = s.size := by simp
    omega
  have hne2 : s.toList.isEmpty = false := by simpa using hne
  have hne3 : s.toList ≠ [] := by simpa using hne
  by_cases h16 : s.size ≤ 16
  case neg =>
    have hno := Lib.hid (nameB_size s (by omega))
    have d16 : decide ((s.size : Int) ≤ 16) = false := decide_eq_false (by omega)
    go_enter Tryz.func90, Tryz.ntmps90
    go_wp2_with fail
    go_ret
    exact ⟨by rw [hno.out]; rfl, rfl⟩
  have d16 : decide ((s.size : Int) ≤ 16) = true := decide_eq_true (by omega)
  have hl := Lib.hid (rletter_any s[0] w)
  have hy := Lib.hid (nameB_yes s h0 h16)
  have hnw := Lib.hid (nameB_wrd s)
  cases h1 : letB (s[0]).toNat with
  | false =>
    have hno := Lib.hid (nameB_let s h0 h1)
    rw [h1] at hl
    clear h1
    go_enter Tryz.func90, Tryz.ntmps90
    go_wp2_with fail
    refine hl.out.mono ?_
    rintro e w' ⟨rfl, rfl⟩
    go_wp2_with fail
    go_ret
    exact ⟨by rw [hno.out]; rfl, rfl⟩
  | true =>
    have q1 := Lib.hid h1
    rw [h1] at hl
    clear h1
    go_enter Tryz.func90, Tryz.ntmps90
    go_wp2_with fail
    refine hl.out.mono ?_
    rintro e w' ⟨rfl, rfl⟩
    go_wp2_with fail
    refine hwd.out.mono ?_
    rintro e w' ⟨rfl, n, hn, rfl, hall, hend⟩
    rcases Nat.lt_or_eq_of_le hn with c | c
    · have hno := Lib.hid (hnw.out n c (hend c))
      have hq : ((n : Int) == (s.size : Int)) = false := beq_eq_false_iff_ne.2 (by omega)
      clear hall hend
      go_wp2_with fail
      go_ret
      exact ⟨by rw [hno.out]; first | rfl | simp [hq], rfl⟩
    · have hyy := Lib.hid (hy.out q1.out (fun j hj => hall j (by omega) hj))
      clear hall hend
      subst c
      have hq : ((s.size : Int) == (s.size : Int)) = true := by simp
      go_wp2_with fail
      go_ret
      exact ⟨by rw [hyy.out]; first | rfl | simp, rfl⟩
set_option maxHeartbeats 3200000 in
theorem rident_any (s : ByteArray) (w : World) (hs : s.size ≤ maxLen) : Calls Tryz.prog 89 #[.string s] w fun e w' => e = .returned (.bool (idB s)) ∧ w = w' := by
  have hno := Lib.hid (idB_no s)
  have hsz := Lib.hid (idB_size s)
  have hyes := Lib.hid (idB_yes s)
  unfold maxLen at hs
  go_enter Tryz.func89, Tryz.ntmps89
  go_wp2_with fail
  go_loop [3] (fun i => ∃ k : Nat, k ≤ s.size ∧ i = .int .i64 k ∧ Hid (∀ j, j < k → (h' : j < s.size) → idnB (s[j]).toNat = true)) (fun i => s.size - (intOf i).toNat)
  case atStart => exact ⟨0, by omega, rfl, Lib.hid (fun j h _ => by omega)⟩
  case round =>
    obtain ⟨k, hk, rfl, hall⟩ := hrel
    by_cases hlt : k < s.size
    · have hstep := Lib.hid (fun (hw : idnB (s[k]).toNat = true) j (h : j < k + 1) (h' : j < s.size) => show idnB (s[j]).toNat = true from by
        rcases Nat.lt_or_ge j k with c | c
        · exact hall.out j c h'
        · obtain rfl : j = k := by omega
          exact hw)
      have hN := Lib.hid (fun h => hno.out k hlt h)
      have hI := Lib.hid (idnB_iff (s[k]).toNat)
      go_wp2_with fail
      all_goals first
        | (refine ⟨⟨k + 1, by omega, by go_num, Lib.hid (hstep.out (hI.out.2 (by simp at *; omega)))⟩, by simp [intOf]; omega⟩)
        | (go_ret
           refine ⟨?_, rfl⟩
           rw [hN.out (by cases hc : idnB (s[k]).toNat; rfl; exfalso; have := hI.out.1 hc; simp at *; omega)]; try rfl)
    · obtain rfl : k = s.size := by omega
      have hA := Lib.hid (fun j (h : j < s.size) => hall.out j h h)
      have hc : (¬ 1 ≤ s.size) ∨ (1 ≤ s.size ∧ ¬ s.size ≤ 16) ∨ (1 ≤ s.size ∧ s.size ≤ 16) := by omega
      rcases hc with q | ⟨q, q'⟩ | ⟨q, q'⟩
      · have hF := Lib.hid (hsz.out (fun h => q h.1))
        have d1 : decide ((1 : Int) ≤ (s.size : Int)) = false := decide_eq_false (by omega)
        go_wp2_with fail
        go_ret
        exact ⟨by rw [hF.out]; rfl, rfl⟩
      · have hF := Lib.hid (hsz.out (fun h => q' h.2))
        have d1 : decide ((1 : Int) ≤ (s.size : Int)) = true := decide_eq_true (by omega)
        have d2 : decide ((s.size : Int) ≤ 16) = false := decide_eq_false (by omega)
        go_wp2_with fail
        go_ret
        exact ⟨by rw [hF.out]; rfl, rfl⟩
      · have hF := Lib.hid (hyes.out q q' (fun j h => hA.out j h))
        have d1 : decide ((1 : Int) ≤ (s.size : Int)) = true := decide_eq_true (by omega)
        have d2 : decide ((s.size : Int) ≤ 16) = true := decide_eq_true (by omega)
        go_wp2_with fail
        go_ret
        exact ⟨by rw [hF.out]; rfl, rfl⟩
end Go.Proofs.YthflmdgfenojcaaGreatDoor
namespace Go.Proofs.YthflmdgfenojcaaGreatDoor
set_option linter.unusedVariables false
open Go.RowKit
set_option maxHeartbeats 1600000 in
theorem rDig_any (s : ByteArray) (w : World) (hs : s.size ≤ maxLen) : Calls Tryz.prog 139 #[.string s] w fun e w' => e = .returned (.bool (digsB s)) ∧ Below w.heap.size w w' := by
  unfold maxLen at hs
  have HNO := Lib.hid (fun k (h : k < s.size) hl => all_no (D := s) k h hl)
  have HYES := Lib.hid (fun h => all_yes (D := s) h)
  go_enter Tryz.func139, Tryz.ntmps139
  go_wp2_with fail
  go_loop [3] (fun i => ∃ k : Nat, k ≤ s.size ∧ i = .int .i64 k ∧ Hid (∀ j, (h : j < k) → (h' : j < s.size) → isDg (s[j]) = true)) (fun i => s.size - (intOf i).toNat)
  case atStart => exact ⟨0, Nat.zero_le _, rfl, Lib.hid (fun j h _ => by omega)⟩
  case round =>
    obtain ⟨k, hk, rfl, hall⟩ := hrel
    by_cases hlt : k < s.size
    · obtain ⟨c, hc⟩ : ∃ c, (s[k]).toNat = c := ⟨_, rfl⟩
      have hc8 : c < 256 := by rw [← hc]; exact UInt8.toNat_lt _
      have HC := Lib.hid hc
      by_cases h1 : c < 48
      · have HF := Lib.hid (HNO.out k hlt (by unfold isDg; rw [hc, decide_eq_false (by omega)]; rfl))
        have h1' : (c : Int) < 48 := by omega
        go_wp2_with fail
        go_ret
        exact ⟨by rw [HF.out]; rfl, Below.refl _ _⟩
      · by_cases h2 : 57 < c
        · have HF := Lib.hid (HNO.out k hlt (by unfold isDg; rw [hc, decide_eq_false (show ¬ c ≤ 57 by omega), Bool.and_false]))
          have h1' : ¬ (c : Int) < 48 := by omega
          have h2' : (57 : Int) < (c : Int) := by omega
          go_wp2_with fail
          go_ret
          exact ⟨by rw [HF.out]; rfl, Below.refl _ _⟩
        · have hN := Lib.hid (show ∀ j, (h : j < k + 1) → (h' : j < s.size) → isDg (s[j]) = true from fun j hj hj' => by
            rcases Nat.lt_or_ge j k with q | q
            · exact hall.out j q hj'
            · obtain rfl : j = k := by omega
              unfold isDg; rw [hc, decide_eq_true (by omega), decide_eq_true (by omega)]; rfl)
          have h1' : ¬ (c : Int) < 48 := by omega
          have h2' : ¬ (57 : Int) < (c : Int) := by omega
          go_wp2_with fail
          go_round
          case rel => exact ⟨k + 1, by omega, by go_num, hN⟩
          case measure => simp [intOf]; omega
    · obtain rfl : k = s.size := by omega
      have HT := Lib.hid (HYES.out (fun j h => hall.out j h h))
      go_wp2_with fail
      go_ret
      exact ⟨by rw [HT.out]; rfl, Below.refl _ _⟩
set_option maxHeartbeats 3200000 in
theorem rsum_any (s : ByteArray) (f : Nat) (w : World) (hs : s.size ≤ 1000) (hf : f = 1) (hd : digsB s = true) : Calls Tryz.prog 176 #[.string s, .int .i64 1] w fun e w' => e = .returned (.int .i64 (luT s s.size)) ∧ Below w.heap.size w w' := by
  have HD := Lib.hid (fun k h => digsB_at hd k h)
  have H0 : Hid (luT s 0 = 0) := Lib.hid rfl
  clear hd hf
  go_enter Tryz.func176, Tryz.ntmps176
  go_wp2_with fail
  go_loop [5, 6, 7] (fun vt vi _ => ∃ (k t : Nat), k ≤ s.size ∧ vi = .int .i64 k ∧ vt = .int .i64 t ∧ t ≤ 9 * k ∧ Hid (luT s k = t)) (fun _ vi _ => s.size - (intOf vi).toNat)
  case atStart => exact ⟨0, 0, Nat.zero_le _, rfl, rfl, by omega, H0⟩
  case round =>
    obtain ⟨k, t, hk, rfl, rfl, ht9, ht⟩ := hrel
    by_cases hp : k < s.size
    · obtain ⟨c, hc⟩ : ∃ c, (s[k]).toNat = c := ⟨_, rfl⟩
      have hdg := HD.out k hp
      have hst := luT_succ s k
      rw [byteAt_in hp, hc, ht.out] at hst
      rw [hc] at hdg
      obtain ⟨x, rfl⟩ : ∃ x, c = x + 48 := ⟨c - 48, by omega⟩
      rw [show x + 48 - 48 = x by omega] at hst
      have hx9 : x ≤ 9 := by omega
      have ex : IntKind.u8.wrap (((x + 48 : Nat) : Int) - 48) = (x : Int) := by simp [IntKind.wrap, IntKind.bits, IntKind.signed]; omega
      have hci : ((s[k]).toNat : Int) = ((x + 48 : Nat) : Int) := by rw [hc]
      obtain ⟨d, hdd⟩ : ∃ d, s.size - k = d := ⟨_, rfl⟩
      have ed : (s.size : Int) - 1 - (k : Int) + 1 = (d : Int) := by omega
      rw [hdd] at hst
      unfold luD at hst
      clear hc hdg
      by_cases h2 : d % 2 = 0
      · rw [if_pos h2] at hst
        have e2 : ((d : Int) % 2 == 0) = true := beq_iff_eq.2 (by omega)
        by_cases h9 : 9 < 2 * x
        · rw [if_pos h9] at hst
          have h9' : (9 : Int) < 2 * (x : Int) := by omega
          have HST := Lib.hid hst
          clear hst h2 h9 hdd
          go_wp2_with fail
          go_round
          case rel => exact ⟨k + 1, t + (2 * x - 9), by omega, by go_num, by go_num, by omega, HST⟩
          case measure => simp [intOf]; omega
        · rw [if_neg h9] at hst
          have h9' : ¬ (9 : Int) < 2 * (x : Int) := by omega
          have HST := Lib.hid hst
          clear hst h2 h9 hdd
          go_wp2_with fail
          go_round
          case rel => exact ⟨k + 1, t + 2 * x, by omega, by go_num, by go_num, by omega, HST⟩
          case measure => simp [intOf]; omega
      · rw [if_neg h2] at hst
        have e2 : ((d : Int) % 2 == 0) = false := beq_eq_false_iff_ne.2 (by omega)
        have HST := Lib.hid hst
        clear hst h2 hdd
        go_wp2_with fail
        go_round
        case rel => exact ⟨k + 1, t + x, by omega, by go_num, by go_num, by omega, HST⟩
        case measure => simp [intOf]; omega
    · obtain rfl : k = s.size := by omega
      go_wp2_with fail
      go_ret
      exact ⟨by rw [ht.out]; rfl, Below.refl _ _⟩
set_option maxHeartbeats 1600000 in
theorem rluhn_any (s : ByteArray) (w : World) (hs : s.size ≤ 1000) (h0 : 0 < s.size) : Calls Tryz.prog 140 #[.string s] w fun e w' => e = .returned (.bool (luhnB s)) ∧ Below w.heap.size w w' := by
  have HA := Lib.hid (fun W => rDig_any s W (by unfold maxLen; omega))
  have hsl : s.data.toList.length = s.size := by simp
  have hem : s.toList.isEmpty = false := by rw [ByteArray.toList_eq]; simpa using (show s.data.toList ≠ [] from fun e => by rw [e] at hsl; simp at hsl; omega)
  clear hsl
  cases hd : digsB s
  · have HF := Lib.hid (show luhnB s = false by unfold luhnB; rw [hd]; simp)
    rw [hd] at HA
    clear hd hs h0
    go_enter Tryz.func140, Tryz.ntmps140
    go_wp2_with fail
    refine (HA.out _).mono ?_
    rintro e w1 ⟨rfl, hb⟩
    have HB := Lib.hid hb
    clear hb
    go_wp2_with fail
    go_ret
    exact ⟨by rw [HF.out]; rfl, HB.out⟩
  · have HS := Lib.hid (fun W => rsum_any s 1 W hs (by omega) hd)
    have HL := luT_le hd s.size (Nat.le_refl _)
    have HV := Lib.hid (show luhnB s = decide (luT s s.size % 10 = 0) by unfold luhnB; rw [hd, decide_eq_true h0]; simp)
    rw [hd] at HA
    generalize luT s s.size = t at *
    by_cases hm : t % 10 = 0
    all_goals
      have hm' := congrArg (fun b : Bool => b) (show ((t : Int) % 10 == 0) = decide (t % 10 = 0) by rw [Bool.eq_iff_iff, beq_iff_eq, decide_eq_true_eq]; omega)
      first
        | rw [decide_eq_true hm] at HV hm'
        | rw [decide_eq_false hm] at HV hm'
      clear hd hs h0 hm
      go_enter Tryz.func140, Tryz.ntmps140
      go_wp2_with fail
      refine (HA.out _).mono ?_
      rintro e w1 ⟨rfl, hb⟩
      have HB := Lib.hid hb
      clear hb
      go_wp2_with fail
      refine (HS.out _).mono ?_
      rintro e w2 ⟨rfl, hb⟩
      have HB2 := Lib.hid (HB.out.trans (hb.mono HB.out.size))
      clear hb
      go_wp2_with fail
      go_ret
      exact ⟨by rw [HV.out]; rfl, HB2.out⟩
set_option maxHeartbeats 1600000 in
theorem rpan_any (s : ByteArray) (w : World) (hs : s.size ≤ maxLen) : Calls Tryz.prog 91 #[.string s] w fun e w' => e = .returned (.int .i64 (panE s)) ∧ Below w.heap.size w w' := by
  have HA := Lib.hid (fun W => rDig_any s W hs)
  unfold maxLen at hs
  by_cases h12 : s.size < 12
  · have HF := Lib.hid (show panE s = 1 by unfold panE; rw [if_pos h12])
    go_enter Tryz.func91, Tryz.ntmps91
    go_wp2_with fail
    go_ret
    exact ⟨by rw [HF.out]; rfl, Below.refl _ _⟩
  · by_cases h19 : 19 < s.size
    · have HF := Lib.hid (show panE s = 3 by unfold panE; rw [if_neg h12, if_pos h19])
      go_enter Tryz.func91, Tryz.ntmps91
      go_wp2_with fail
      go_ret
      exact ⟨by rw [HF.out]; rfl, Below.refl _ _⟩
    · cases hd : digsB s
      · have HF := Lib.hid (show panE s = 2 by unfold panE; rw [if_neg h12, if_neg h19, if_pos hd])
        rw [hd] at HA
        clear hd
        go_enter Tryz.func91, Tryz.ntmps91
        go_wp2_with fail
        refine (HA.out _).mono ?_
        rintro e w1 ⟨rfl, hb⟩
        have HB := Lib.hid hb
        clear hb
        go_wp2_with fail
        go_ret
        exact ⟨by rw [HF.out]; rfl, HB.out⟩
      · have HL := Lib.hid (fun W => rluhn_any s W (by omega) (by omega))
        rw [hd] at HA
        cases hl : luhnB s
        all_goals
          have HF := Lib.hid (show panE s = if luhnB s = false then 9 else 0 by unfold panE; rw [if_neg h12, if_neg h19, if_neg (by rw [hd]; simp)])
          rw [hl] at HF HL
          clear hl hd
          go_enter Tryz.func91, Tryz.ntmps91
          go_wp2_with fail
          refine (HA.out _).mono ?_
          rintro e w1 ⟨rfl, hb⟩
          have HB := Lib.hid hb
          clear hb
          go_wp2_with fail
          refine (HL.out _).mono ?_
          rintro e w2 ⟨rfl, hb⟩
          have HB2 := Lib.hid (HB.out.trans (hb.mono HB.out.size))
          clear hb
          go_wp2_with fail
          go_ret
          exact ⟨by rw [HF.out]; rfl, HB2.out⟩
end Go.Proofs.YthflmdgfenojcaaGreatDoor
namespace Go.Proofs.YthflmdgfenojcaaGreatDoor
set_option linter.unusedVariables false
open Go.RowKit
set_option maxHeartbeats 1600000 in
theorem rcur_any (s : ByteArray) (w : World) (hs : s.size ≤ maxLen) : Calls Tryz.prog 141 #[.string s] w fun e w' => e = .returned (.bool (curB s)) ∧ w = w' := by
  unfold maxLen at hs
  have HNO := Lib.hid (fun k h hl => curB_no (s := s) k h hl)
  have HSZ := Lib.hid (fun h => curB_size (s := s) h)
  have HYES := Lib.hid (fun h hw => curB_yes (s := s) h hw)
  go_enter Tryz.func141, Tryz.ntmps141
  go_wp2_with fail
  go_loop [3] (fun i => ∃ k : Nat, k ≤ s.size ∧ k ≤ 3 ∧ i = .int .i64 k ∧ Hid (∀ j, (h : j < k) → (h' : j < s.size) → capB (s[j]).toNat = true)) (fun i => s.size - (intOf i).toNat)
  case atStart => exact ⟨0, Nat.zero_le _, by omega, rfl, Lib.hid (fun j h _ => by omega)⟩
  case round =>
    obtain ⟨k, hk, hk3, rfl, hall⟩ := hrel
    by_cases hlt : k < s.size
    · by_cases h3 : k < 3
      · obtain ⟨c, hc⟩ : ∃ c, (s[k]).toNat = c := ⟨_, rfl⟩
        have hc8 : c < 256 := by rw [← hc]; exact UInt8.toNat_lt _
        have HC := Lib.hid hc
        by_cases h1 : c < 65
        · have HF := Lib.hid (HNO.out k hlt (by rw [hc]; unfold capB; rw [decide_eq_false (by omega)]; rfl))
          have h1' : (c : Int) < 65 := by omega
          go_wp2_with fail
          go_ret
          exact ⟨by rw [HF.out]; rfl, rfl⟩
        · by_cases h2 : 90 < c
          · have HF := Lib.hid (HNO.out k hlt (by rw [hc]; unfold capB; rw [decide_eq_false (show ¬ c ≤ 90 by omega), Bool.and_false]))
            have h1' : ¬ (c : Int) < 65 := by omega
            have h2' : (90 : Int) < (c : Int) := by omega
            go_wp2_with fail
            go_ret
            exact ⟨by rw [HF.out]; rfl, rfl⟩
          · have hN := Lib.hid (show ∀ j, (h : j < k + 1) → (h' : j < s.size) → capB (s[j]).toNat = true from fun j hj hj' => by
              rcases Nat.lt_or_ge j k with q | q
              · exact hall.out j q hj'
              · obtain rfl : j = k := by omega
                rw [hc]; unfold capB; rw [decide_eq_true (by omega), decide_eq_true (by omega)]; rfl)
            have h1' : ¬ (c : Int) < 65 := by omega
            have h2' : ¬ (90 : Int) < (c : Int) := by omega
            go_wp2_with fail
            go_round
            case rel => exact ⟨k + 1, by omega, by omega, by go_num, hN⟩
            case measure => simp [intOf]; omega
      · have HF := Lib.hid (HSZ.out (by omega))
        have hb3 : ((s.size : Int) == 3) = false := by simp only [beq_eq_false_iff_ne]; omega
        go_wp2_with fail
        go_ret
        exact ⟨by rw [HF.out]; rfl, rfl⟩
    · obtain rfl : k = s.size := by omega
      by_cases he : s.size = 3
      · have HT := Lib.hid (HYES.out he (fun j h => hall.out j h h))
        have hb3 : ((s.size : Int) == 3) = true := beq_iff_eq.2 (by omega)
        clear he
        go_wp2_with fail
        go_ret
        exact ⟨by rw [HT.out]; rfl, rfl⟩
      · have HF := Lib.hid (HSZ.out he)
        have hb3 : ((s.size : Int) == 3) = false := by simp only [beq_eq_false_iff_ne]; omega
        clear he
        go_wp2_with fail
        go_ret
        exact ⟨by rw [HF.out]; rfl, rfl⟩
set_option maxHeartbeats 400000 in
theorem rin_any (n : Int) (w : World) : Calls Tryz.prog 142 #[.int .i64 n] w fun e w' => e = .returned (.bool (inT n)) ∧ w = w' := by
  by_cases h1 : -4503599627370496 ≤ n
  · have e1 := Lib.hid (show inT n = decide (n ≤ 4503599627370496) by unfold inT; rw [decide_eq_true h1, Bool.true_and])
    go_enter Tryz.func142, Tryz.ntmps142
    go_wp2_with fail
    go_ret
    exact ⟨by rw [e1.out]; rfl, rfl⟩
  · have e1 := Lib.hid (show inT n = false by unfold inT; rw [decide_eq_false h1, Bool.false_and])
    have h1' : decide (-4503599627370496 ≤ n) = false := decide_eq_false h1
    go_enter Tryz.func142, Tryz.ntmps142
    go_wp2_with fail
    go_ret
    exact ⟨by rw [e1.out]; rfl, rfl⟩
set_option maxHeartbeats 800000 in
theorem rmon_any (a : Int) (s : ByteArray) (w : World) (hs : s.size ≤ maxLen) : Calls Tryz.prog 92 #[.agg #[.int .i64 a, .string s]] w fun e w' => e = .returned (.int .i64 (monE a s)) ∧ Below w.heap.size w w' := by
  have HC := Lib.hid (fun W => rcur_any s W hs)
  have HT := Lib.hid (fun W => rin_any a W)
  cases h1 : curB s
  · have he := Lib.hid (show monE a s = 11 by unfold monE; rw [h1]; rfl)
    rw [h1] at HC
    clear h1
    go_enter Tryz.func92, Tryz.ntmps92
    go_wp2_with fail
    refine (HC.out _).mono ?_
    rintro e w1 ⟨rfl, rfl⟩
    go_wp2_with fail
    go_ret
    exact ⟨by rw [he.out]; rfl, (Below.refl _ _).alloc (Nat.le_refl _) _⟩
  · cases h2 : inT a
    · have he := Lib.hid (show monE a s = 4 by unfold monE; rw [h1, h2]; rfl)
      rw [h1] at HC
      rw [h2] at HT
      clear h1 h2
      go_enter Tryz.func92, Tryz.ntmps92
      go_wp2_with fail
      refine (HC.out _).mono ?_
      rintro e w1 ⟨rfl, rfl⟩
      go_wp2_with fail
      refine (HT.out _).mono ?_
      rintro e w1 ⟨rfl, rfl⟩
      go_wp2_with fail
      go_ret
      exact ⟨by rw [he.out]; rfl, (Below.refl _ _).alloc (Nat.le_refl _) _⟩
    · have he := Lib.hid (show monE a s = 0 by unfold monE; rw [h1, h2]; rfl)
      rw [h1] at HC
      rw [h2] at HT
      clear h1 h2
      go_enter Tryz.func92, Tryz.ntmps92
      go_wp2_with fail
      refine (HC.out _).mono ?_
      rintro e w1 ⟨rfl, rfl⟩
      go_wp2_with fail
      refine (HT.out _).mono ?_
      rintro e w1 ⟨rfl, rfl⟩
      go_wp2_with fail
      go_ret
      exact ⟨by rw [he.out]; rfl, (Below.refl _ _).alloc (Nat.le_refl _) _⟩
end Go.Proofs.YthflmdgfenojcaaGreatDoor
namespace Go.Proofs.YthflmdgfenojcaaGreatDoor
set_option linter.unusedVariables false
open Go.RowKit Go.Sort
theorem ways_names {b1 b0 b2 b3 b4 b5 : Bool} : (b1 = false) ∨ (b1 = true ∧ b0 = false ∧ b2 = false) ∨ (b1 = true ∧ b0 = true ∧ b3 = false) ∨ (b1 = true ∧ b0 = true ∧ b3 = true ∧ b4 = false) ∨ (b1 = true ∧ b0 = true ∧ b3 = true ∧ b4 = true ∧ b5 = false) ∨ (b1 = true ∧ b0 = true ∧ b3 = true ∧ b4 = true ∧ b5 = true) ∨ (b1 = true ∧ b0 = false ∧ b2 = true ∧ b3 = false) ∨ (b1 = true ∧ b0 = false ∧ b2 = true ∧ b3 = true ∧ b4 = false) ∨ (b1 = true ∧ b0 = false ∧ b2 = true ∧ b3 = true ∧ b4 = true ∧ b5 = false) ∨ (b1 = true ∧ b0 = false ∧ b2 = true ∧ b3 = true ∧ b4 = true ∧ b5 = true) := by
  cases b1 <;> cases b0 <;> cases b2 <;> cases b3 <;> cases b4 <;> cases b5 <;> simp
/-- What the parts say together. -/
theorem chk_of (r : Rec) : chkE r = if kindE r ≠ 0 then kindE r else if namesE r ≠ 0 then namesE r else if cardE r ≠ 0 then cardE r else if monE r.a r.cu ≠ 0 then monE r.a r.cu else if limE r ≠ 0 then limE r else dateE r := rfl
set_option maxRecDepth 100000 in
set_option maxHeartbeats 25600000 in
theorem rchk_any (r : Rec) (hr : r.Fit) (w : World) : Calls Tryz.prog 36 #[r.val] w (PtPost (chkE r) w) := by
  have HC := Lib.hid (chk_of r)
  obtain ⟨K, id, au, aq, iss, me, ca, a, cu, d, c, f⟩ := r
  obtain ⟨h1, h2, h3, h4, h5, h6, h7⟩ := hr
  unfold kindE namesE cardE limE dateE at HC
  unfold Rec.val Rec.cells PtPost
  dsimp only at *
  have H1 := Lib.hid (fun W => rident_any id W h1)
  have H2 := Lib.hid (fun W => rident_any au W h2)
  have H3 := Lib.hid (fun W => rname_any aq W h3)
  have H4 := Lib.hid (fun W => rname_any iss W h4)
  have H5 := Lib.hid (fun W => rident_any me W h5)
  have H6 := Lib.hid (fun W => rpan_any ca W h6)
  have H7 := Lib.hid (fun W => rmon_any a cu W h7)
  have hem := empty_list au
  clear h1 h2 h3 h4 h5 h6 h7
  generalize idB id = b1 at *
  generalize idB au = b2 at *
  generalize nameB aq.data.toList = b3 at *
  generalize nameB iss.data.toList = b4 at *
  generalize idB me = b5 at *
  generalize emptyB au = b0 at *
  generalize panE ca = PE at *
  generalize monE a cu = ME at *
  generalize chkE ⟨K, id, au, aq, iss, me, ca, a, cu, d, c, f⟩ = CE at *
  have HB0 : Hid (Below w.heap.size w (w.alloc (.cells #[.int .i64 K, .string id, .string au, .string aq, .string iss, .string me, .string ca, .int .i64 a, .string cu, .int .i64 d, .int .i64 c, .bool f] 57))) := Lib.hid (bx w _)
  have hk : K < 1 ∨ (¬ K < 1 ∧ 4 < K) ∨ (¬ K < 1 ∧ ¬ 4 < K) := by omega
  rcases hk with k1 | ⟨k1, k2⟩ | ⟨k1, k2⟩
  · have HE := Lib.hid (show CE = 4 by rw [HC.out, if_neg (show ¬ (1 ≤ K ∧ K ≤ 4) by omega), if_pos (by decide)])
    go_enter Tryz.func36, Tryz.ntmps36
    go_wp2_with fail
    go_ret
    exact ⟨by rw [HE.out]; rfl, HB0.out⟩
  · have HE := Lib.hid (show CE = 4 by rw [HC.out, if_neg (show ¬ (1 ≤ K ∧ K ≤ 4) by omega), if_pos (by decide)])
    go_enter Tryz.func36, Tryz.ntmps36
    go_wp2_with fail
    go_ret
    exact ⟨by rw [HE.out]; rfl, HB0.out⟩
  · have HC1 : Hid (CE = if (if b1 = true ∧ (b0 = true ∨ b2 = true) ∧ b3 = true ∧ b4 = true ∧ b5 = true then 0 else (5 : Int)) ≠ 0 then (if b1 = true ∧ (b0 = true ∨ b2 = true) ∧ b3 = true ∧ b4 = true ∧ b5 = true then 0 else 5) else if (if PE = 0 then 0 else (17 : Int)) ≠ 0 then (if PE = 0 then 0 else 17) else if ME ≠ 0 then ME else if (if 1 ≤ a ∧ a ≤ 999999999999 ∧ 0 ≤ c ∧ c ≤ 9999 then 0 else (4 : Int)) ≠ 0 then (if 1 ≤ a ∧ a ≤ 999999999999 ∧ 0 ≤ c ∧ c ≤ 9999 then 0 else 4) else if 0 ≤ d ∧ d ≤ 99999 then 0 else 14) := Lib.hid (by rw [HC.out, if_pos (show 1 ≤ K ∧ K ≤ 4 by omega), if_neg (by decide)])
    clear HC
    rcases @ways_names b1 b0 b2 b3 b4 b5 with rfl | ⟨rfl, rfl, rfl⟩ | ⟨rfl, rfl, rfl⟩ | ⟨rfl, rfl, rfl, rfl⟩ | ⟨rfl, rfl, rfl, rfl, rfl⟩ | ⟨rfl, rfl, rfl, rfl, rfl⟩ | ⟨rfl, rfl, rfl, rfl⟩ | ⟨rfl, rfl, rfl, rfl, rfl⟩ | ⟨rfl, rfl, rfl, rfl, rfl, rfl⟩ | ⟨rfl, rfl, rfl, rfl, rfl, rfl⟩
    · have HE := Lib.hid (show CE = 5 by rw [HC1.out]; simp)
      go_enter Tryz.func36, Tryz.ntmps36
      go_wp2_with fail
      refine (H1.out _).mono ?_
      rintro e w' ⟨rfl, rfl⟩
      go_wp2_with fail
      go_ret
      exact ⟨by rw [HE.out]; rfl, HB0.out⟩
    · have HE := Lib.hid (show CE = 5 by rw [HC1.out]; simp)
      go_enter Tryz.func36, Tryz.ntmps36
      go_wp2_with fail
      refine (H1.out _).mono ?_
      rintro e w' ⟨rfl, rfl⟩
      go_wp2_with fail
      refine (H2.out _).mono ?_
      rintro e w' ⟨rfl, rfl⟩
      go_wp2_with fail
      go_ret
      exact ⟨by rw [HE.out]; rfl, HB0.out⟩
    · have HE := Lib.hid (show CE = 5 by rw [HC1.out]; simp)
      go_enter Tryz.func36, Tryz.ntmps36
      go_wp2_with fail
      refine (H1.out _).mono ?_
      rintro e w' ⟨rfl, rfl⟩
      go_wp2_with fail
      refine (H3.out _).mono ?_
      rintro e w' ⟨rfl, rfl⟩
      go_wp2_with fail
      go_ret
      exact ⟨by rw [HE.out]; rfl, HB0.out⟩
    · have HE := Lib.hid (show CE = 5 by rw [HC1.out]; simp)
      go_enter Tryz.func36, Tryz.ntmps36
      go_wp2_with fail
      refine (H1.out _).mono ?_
      rintro e w' ⟨rfl, rfl⟩
      go_wp2_with fail
      refine (H3.out _).mono ?_
      rintro e w' ⟨rfl, rfl⟩
      go_wp2_with fail
      refine (H4.out _).mono ?_
      rintro e w' ⟨rfl, rfl⟩
      go_wp2_with fail
      go_ret
      exact ⟨by rw [HE.out]; rfl, HB0.out⟩
    · have HE := Lib.hid (show CE = 5 by rw [HC1.out]; simp)
      go_enter Tryz.func36, Tryz.ntmps36
      go_wp2_with fail
      refine (H1.out _).mono ?_
      rintro e w' ⟨rfl, rfl⟩
      go_wp2_with fail
      refine (H3.out _).mono ?_
      rintro e w' ⟨rfl, rfl⟩
      go_wp2_with fail
      refine (H4.out _).mono ?_
      rintro e w' ⟨rfl, rfl⟩
      go_wp2_with fail
      refine (H5.out _).mono ?_
      rintro e w' ⟨rfl, rfl⟩
      go_wp2_with fail
      go_ret
      exact ⟨by rw [HE.out]; rfl, HB0.out⟩
    · have HC2 : Hid (CE = if (if PE = 0 then 0 else (17 : Int)) ≠ 0 then (if PE = 0 then 0 else 17) else if ME ≠ 0 then ME else if (if 1 ≤ a ∧ a ≤ 999999999999 ∧ 0 ≤ c ∧ c ≤ 9999 then 0 else (4 : Int)) ≠ 0 then (if 1 ≤ a ∧ a ≤ 999999999999 ∧ 0 ≤ c ∧ c ≤ 9999 then 0 else 4) else if 0 ≤ d ∧ d ≤ 99999 then 0 else 14) := Lib.hid (by rw [HC1.out]; simp)
      clear HC1
      go_enter Tryz.func36, Tryz.ntmps36
      go_wp2_with fail
      refine (H1.out _).mono ?_
      rintro e w' ⟨rfl, rfl⟩
      go_wp2_with fail
      refine (H3.out _).mono ?_
      rintro e w' ⟨rfl, rfl⟩
      go_wp2_with fail
      refine (H4.out _).mono ?_
      rintro e w' ⟨rfl, rfl⟩
      go_wp2_with fail
      refine (H5.out _).mono ?_
      rintro e w' ⟨rfl, rfl⟩
      go_wp2_with fail
      refine (H6.out _).mono ?_
      rintro e w1 ⟨rfl, hb⟩
      obtain ⟨hk1, -, hb1⟩ := box1 hb
      have HB := Lib.hid hb1
      have HK := Lib.hid hk1
      clear hb hk1 hb1
      obtain ⟨-, r0, r1, r2, r3, r4, r5, r6, r7, r8, r9, r10, r11⟩ := row12 (Below.refl _ _) HK.out
      cases q : (PE != 0)
      case true =>
        have HE := Lib.hid (show CE = 17 by rw [HC2.out, if_neg (show ¬ PE = 0 by simpa using q), if_pos (by decide)])
        go_wp2_with fail
        go_ret
        exact ⟨by rw [HE.out]; rfl, HB.out⟩
      case false =>
        have HC3 : Hid (CE = if ME ≠ 0 then ME else if (if 1 ≤ a ∧ a ≤ 999999999999 ∧ 0 ≤ c ∧ c ≤ 9999 then 0 else (4 : Int)) ≠ 0 then (if 1 ≤ a ∧ a ≤ 999999999999 ∧ 0 ≤ c ∧ c ≤ 9999 then 0 else 4) else if 0 ≤ d ∧ d ≤ 99999 then 0 else 14) := Lib.hid (by rw [HC2.out, if_pos (show PE = 0 by simpa using q), if_neg (by decide)])
        clear HC2
        go_wp2_with fail
        refine (H7.out _).mono ?_
        rintro e w2 ⟨rfl, hb⟩
        have HB2 := Lib.hid (HB.out.trans (hb.mono HB.out.size))
        have HK2 := Lib.hid (blk_later HK.out hb)
        clear hb r0 r1 r2 r3 r4 r5 r6 r7 r8 r9 r10 r11
        obtain ⟨-, r0, r1, r2, r3, r4, r5, r6, r7, r8, r9, r10, r11⟩ := row12 (Below.refl _ _) HK2.out
        cases qm : (ME != 0)
        case true =>
          have HE := Lib.hid (show CE = ME by rw [HC3.out, if_pos (by simpa using qm)])
          go_wp2_with fail
          refine (H7.out _).mono ?_
          rintro e w3 ⟨rfl, hb⟩
          have HB3 := Lib.hid (HB2.out.trans (hb.mono HB2.out.size))
          clear hb r0 r1 r2 r3 r4 r5 r6 r7 r8 r9 r10 r11
          go_wp2_with fail
          go_ret
          exact ⟨by rw [HE.out]; rfl, HB3.out⟩
        case false =>
          have HC4 : Hid (CE = if (if 1 ≤ a ∧ a ≤ 999999999999 ∧ 0 ≤ c ∧ c ≤ 9999 then 0 else (4 : Int)) ≠ 0 then (if 1 ≤ a ∧ a ≤ 999999999999 ∧ 0 ≤ c ∧ c ≤ 9999 then 0 else 4) else if 0 ≤ d ∧ d ≤ 99999 then 0 else 14) := Lib.hid (by rw [HC3.out, if_neg (by simpa using qm)])
          clear HC3
          have hl : a < 1 ∨ (¬ a < 1 ∧ 999999999999 < a) ∨ (¬ a < 1 ∧ ¬ 999999999999 < a ∧ c < 0) ∨ (¬ a < 1 ∧ ¬ 999999999999 < a ∧ ¬ c < 0 ∧ 9999 < c) ∨ (¬ a < 1 ∧ ¬ 999999999999 < a ∧ ¬ c < 0 ∧ ¬ 9999 < c) := by omega
          rcases hl with l1 | ⟨l1, l2⟩ | ⟨l1, l2, l3⟩ | ⟨l1, l2, l3, l4⟩ | ⟨l1, l2, l3, l4⟩
          · have HE := Lib.hid (show CE = 4 by rw [HC4.out, if_neg (show ¬ (1 ≤ a ∧ a ≤ 999999999999 ∧ 0 ≤ c ∧ c ≤ 9999) by omega), if_pos (by decide)])
            go_wp2_with fail
            go_ret
            exact ⟨by rw [HE.out]; rfl, HB2.out⟩
          · have HE := Lib.hid (show CE = 4 by rw [HC4.out, if_neg (show ¬ (1 ≤ a ∧ a ≤ 999999999999 ∧ 0 ≤ c ∧ c ≤ 9999) by omega), if_pos (by decide)])
            go_wp2_with fail
            go_ret
            exact ⟨by rw [HE.out]; rfl, HB2.out⟩
          · have HE := Lib.hid (show CE = 4 by rw [HC4.out, if_neg (show ¬ (1 ≤ a ∧ a ≤ 999999999999 ∧ 0 ≤ c ∧ c ≤ 9999) by omega), if_pos (by decide)])
            go_wp2_with fail
            go_ret
            exact ⟨by rw [HE.out]; rfl, HB2.out⟩
          · have HE := Lib.hid (show CE = 4 by rw [HC4.out, if_neg (show ¬ (1 ≤ a ∧ a ≤ 999999999999 ∧ 0 ≤ c ∧ c ≤ 9999) by omega), if_pos (by decide)])
            go_wp2_with fail
            go_ret
            exact ⟨by rw [HE.out]; rfl, HB2.out⟩
          · have HC5 : Hid (CE = if 0 ≤ d ∧ d ≤ 99999 then 0 else 14) := Lib.hid (by rw [HC4.out, if_pos (show 1 ≤ a ∧ a ≤ 999999999999 ∧ 0 ≤ c ∧ c ≤ 9999 by omega), if_neg (by decide)])
            clear HC4
            have hd : d < 0 ∨ (¬ d < 0 ∧ 99999 < d) ∨ (¬ d < 0 ∧ ¬ 99999 < d) := by omega
            rcases hd with l5 | ⟨l5, l6⟩ | ⟨l5, l6⟩
            · have HE := Lib.hid (show CE = 14 by rw [HC5.out, if_neg (show ¬ (0 ≤ d ∧ d ≤ 99999) by omega)])
              go_wp2_with fail
              go_ret
              exact ⟨by rw [HE.out]; rfl, HB2.out⟩
            · have HE := Lib.hid (show CE = 14 by rw [HC5.out, if_neg (show ¬ (0 ≤ d ∧ d ≤ 99999) by omega)])
              go_wp2_with fail
              go_ret
              exact ⟨by rw [HE.out]; rfl, HB2.out⟩
            · have HE := Lib.hid (show CE = 0 by rw [HC5.out, if_pos (show 0 ≤ d ∧ d ≤ 99999 by omega)])
              go_wp2_with fail
              go_ret
              exact ⟨by rw [HE.out]; rfl, HB2.out⟩
    · have HE := Lib.hid (show CE = 5 by rw [HC1.out]; simp)
      go_enter Tryz.func36, Tryz.ntmps36
      go_wp2_with fail
      refine (H1.out _).mono ?_
      rintro e w' ⟨rfl, rfl⟩
      go_wp2_with fail
      refine (H2.out _).mono ?_
      rintro e w' ⟨rfl, rfl⟩
      go_wp2_with fail
      refine (H3.out _).mono ?_
      rintro e w' ⟨rfl, rfl⟩
      go_wp2_with fail
      go_ret
      exact ⟨by rw [HE.out]; rfl, HB0.out⟩
    · have HE := Lib.hid (show CE = 5 by rw [HC1.out]; simp)
      go_enter Tryz.func36, Tryz.ntmps36
      go_wp2_with fail
      refine (H1.out _).mono ?_
      rintro e w' ⟨rfl, rfl⟩
      go_wp2_with fail
      refine (H2.out _).mono ?_
      rintro e w' ⟨rfl, rfl⟩
      go_wp2_with fail
      refine (H3.out _).mono ?_
      rintro e w' ⟨rfl, rfl⟩
      go_wp2_with fail
      refine (H4.out _).mono ?_
      rintro e w' ⟨rfl, rfl⟩
      go_wp2_with fail
      go_ret
      exact ⟨by rw [HE.out]; rfl, HB0.out⟩
    · have HE := Lib.hid (show CE = 5 by rw [HC1.out]; simp)
      go_enter Tryz.func36, Tryz.ntmps36
      go_wp2_with fail
      refine (H1.out _).mono ?_
      rintro e w' ⟨rfl, rfl⟩
      go_wp2_with fail
      refine (H2.out _).mono ?_
      rintro e w' ⟨rfl, rfl⟩
      go_wp2_with fail
      refine (H3.out _).mono ?_
      rintro e w' ⟨rfl, rfl⟩
      go_wp2_with fail
      refine (H4.out _).mono ?_
      rintro e w' ⟨rfl, rfl⟩
      go_wp2_with fail
      refine (H5.out _).mono ?_
      rintro e w' ⟨rfl, rfl⟩
      go_wp2_with fail
      go_ret
      exact ⟨by rw [HE.out]; rfl, HB0.out⟩
    · have HC2 : Hid (CE = if (if PE = 0 then 0 else (17 : Int)) ≠ 0 then (if PE = 0 then 0 else 17) else if ME ≠ 0 then ME else if (if 1 ≤ a ∧ a ≤ 999999999999 ∧ 0 ≤ c ∧ c ≤ 9999 then 0 else (4 : Int)) ≠ 0 then (if 1 ≤ a ∧ a ≤ 999999999999 ∧ 0 ≤ c ∧ c ≤ 9999 then 0 else 4) else if 0 ≤ d ∧ d ≤ 99999 then 0 else 14) := Lib.hid (by rw [HC1.out]; simp)
      clear HC1
      go_enter Tryz.func36, Tryz.ntmps36
      go_wp2_with fail
      refine (H1.out _).mono ?_
      rintro e w' ⟨rfl, rfl⟩
      go_wp2_with fail
      refine (H2.out _).mono ?_
      rintro e w' ⟨rfl, rfl⟩
      go_wp2_with fail
      refine (H3.out _).mono ?_
      rintro e w' ⟨rfl, rfl⟩
      go_wp2_with fail
      refine (H4.out _).mono ?_
      rintro e w' ⟨rfl, rfl⟩
      go_wp2_with fail
      refine (H5.out _).mono ?_
      rintro e w' ⟨rfl, rfl⟩
      go_wp2_with fail
      refine (H6.out _).mono ?_
      rintro e w1 ⟨rfl, hb⟩
      obtain ⟨hk1, -, hb1⟩ := box1 hb
      have HB := Lib.hid hb1
      have HK := Lib.hid hk1
      clear hb hk1 hb1
      obtain ⟨-, r0, r1, r2, r3, r4, r5, r6, r7, r8, r9, r10, r11⟩ := row12 (Below.refl _ _) HK.out
      cases q : (PE != 0)
      case true =>
        have HE := Lib.hid (show CE = 17 by rw [HC2.out, if_neg (show ¬ PE = 0 by simpa using q), if_pos (by decide)])
        go_wp2_with fail
        go_ret
        exact ⟨by rw [HE.out]; rfl, HB.out⟩
      case false =>
        have HC3 : Hid (CE = if ME ≠ 0 then ME else if (if 1 ≤ a ∧ a ≤ 999999999999 ∧ 0 ≤ c ∧ c ≤ 9999 then 0 else (4 : Int)) ≠ 0 then (if 1 ≤ a ∧ a ≤ 999999999999 ∧ 0 ≤ c ∧ c ≤ 9999 then 0 else 4) else if 0 ≤ d ∧ d ≤ 99999 then 0 else 14) := Lib.hid (by rw [HC2.out, if_pos (show PE = 0 by simpa using q), if_neg (by decide)])
        clear HC2
        go_wp2_with fail
        refine (H7.out _).mono ?_
        rintro e w2 ⟨rfl, hb⟩
        have HB2 := Lib.hid (HB.out.trans (hb.mono HB.out.size))
        have HK2 := Lib.hid (blk_later HK.out hb)
        clear hb r0 r1 r2 r3 r4 r5 r6 r7 r8 r9 r10 r11
        obtain ⟨-, r0, r1, r2, r3, r4, r5, r6, r7, r8, r9, r10, r11⟩ := row12 (Below.refl _ _) HK2.out
        cases qm : (ME != 0)
        case true =>
          have HE := Lib.hid (show CE = ME by rw [HC3.out, if_pos (by simpa using qm)])
          go_wp2_with fail
          refine (H7.out _).mono ?_
          rintro e w3 ⟨rfl, hb⟩
          have HB3 := Lib.hid (HB2.out.trans (hb.mono HB2.out.size))
          clear hb r0 r1 r2 r3 r4 r5 r6 r7 r8 r9 r10 r11
          go_wp2_with fail
          go_ret
          exact ⟨by rw [HE.out]; rfl, HB3.out⟩
        case false =>
          have HC4 : Hid (CE = if (if 1 ≤ a ∧ a ≤ 999999999999 ∧ 0 ≤ c ∧ c ≤ 9999 then 0 else (4 : Int)) ≠ 0 then (if 1 ≤ a ∧ a ≤ 999999999999 ∧ 0 ≤ c ∧ c ≤ 9999 then 0 else 4) else if 0 ≤ d ∧ d ≤ 99999 then 0 else 14) := Lib.hid (by rw [HC3.out, if_neg (by simpa using qm)])
          clear HC3
          have hl : a < 1 ∨ (¬ a < 1 ∧ 999999999999 < a) ∨ (¬ a < 1 ∧ ¬ 999999999999 < a ∧ c < 0) ∨ (¬ a < 1 ∧ ¬ 999999999999 < a ∧ ¬ c < 0 ∧ 9999 < c) ∨ (¬ a < 1 ∧ ¬ 999999999999 < a ∧ ¬ c < 0 ∧ ¬ 9999 < c) := by omega
          rcases hl with l1 | ⟨l1, l2⟩ | ⟨l1, l2, l3⟩ | ⟨l1, l2, l3, l4⟩ | ⟨l1, l2, l3, l4⟩
          · have HE := Lib.hid (show CE = 4 by rw [HC4.out, if_neg (show ¬ (1 ≤ a ∧ a ≤ 999999999999 ∧ 0 ≤ c ∧ c ≤ 9999) by omega), if_pos (by decide)])
            go_wp2_with fail
            go_ret
            exact ⟨by rw [HE.out]; rfl, HB2.out⟩
          · have HE := Lib.hid (show CE = 4 by rw [HC4.out, if_neg (show ¬ (1 ≤ a ∧ a ≤ 999999999999 ∧ 0 ≤ c ∧ c ≤ 9999) by omega), if_pos (by decide)])
            go_wp2_with fail
            go_ret
            exact ⟨by rw [HE.out]; rfl, HB2.out⟩
          · have HE := Lib.hid (show CE = 4 by rw [HC4.out, if_neg (show ¬ (1 ≤ a ∧ a ≤ 999999999999 ∧ 0 ≤ c ∧ c ≤ 9999) by omega), if_pos (by decide)])
            go_wp2_with fail
            go_ret
            exact ⟨by rw [HE.out]; rfl, HB2.out⟩
          · have HE := Lib.hid (show CE = 4 by rw [HC4.out, if_neg (show ¬ (1 ≤ a ∧ a ≤ 999999999999 ∧ 0 ≤ c ∧ c ≤ 9999) by omega), if_pos (by decide)])
            go_wp2_with fail
            go_ret
            exact ⟨by rw [HE.out]; rfl, HB2.out⟩
          · have HC5 : Hid (CE = if 0 ≤ d ∧ d ≤ 99999 then 0 else 14) := Lib.hid (by rw [HC4.out, if_pos (show 1 ≤ a ∧ a ≤ 999999999999 ∧ 0 ≤ c ∧ c ≤ 9999 by omega), if_neg (by decide)])
            clear HC4
            have hd : d < 0 ∨ (¬ d < 0 ∧ 99999 < d) ∨ (¬ d < 0 ∧ ¬ 99999 < d) := by omega
            rcases hd with l5 | ⟨l5, l6⟩ | ⟨l5, l6⟩
            · have HE := Lib.hid (show CE = 14 by rw [HC5.out, if_neg (show ¬ (0 ≤ d ∧ d ≤ 99999) by omega)])
              go_wp2_with fail
              go_ret
              exact ⟨by rw [HE.out]; rfl, HB2.out⟩
            · have HE := Lib.hid (show CE = 14 by rw [HC5.out, if_neg (show ¬ (0 ≤ d ∧ d ≤ 99999) by omega)])
              go_wp2_with fail
              go_ret
              exact ⟨by rw [HE.out]; rfl, HB2.out⟩
            · have HE := Lib.hid (show CE = 0 by rw [HC5.out, if_pos (show 0 ≤ d ∧ d ≤ 99999 by omega)])
              go_wp2_with fail
              go_ret
              exact ⟨by rw [HE.out]; rfl, HB2.out⟩
end Go.Proofs.YthflmdgfenojcaaGreatDoor
namespace Go.Proofs.YthflmdgfenojcaaGreatDoor
set_option linter.unusedVariables false
open Go.RowKit Go.Sort
def decLit : ByteArray := ⟨#[48, 49, 50, 51, 52, 53, 54, 55, 56, 57]⟩
theorem decLit_size : decLit.size = 10 := rfl
theorem decLit_fin : ∀ x : Fin 10, (decLit.extract x.val (x.val + 1)).data.toList = [UInt8.ofNat (48 + x.val)] := by decide +kernel
theorem decLit_piece (x : Nat) (h : x < 10) : decLit.extract x (x + 1) = ⟨#[UInt8.ofNat (48 + x)]⟩ := ByteArray.ext (Array.ext' (decLit_fin ⟨x, h⟩))
/-- What is left of the number, and what is written already. -/
def DecI (n m : Nat) (s : ByteArray) : Prop := Lib.decDigits n = Lib.decDigits m ++ s.data.toList
theorem decI_step {n m : Nat} {s t : ByteArray} (h : DecI n m s) (hm : 10 ≤ m) (ht : (ByteArray.mk #[UInt8.ofNat (48 + m % 10)]) ++ s = t) : DecI n (m / 10) t := by
  have htd : t.data.toList = UInt8.ofNat (48 + m % 10) :: s.data.toList := by rw [← ht]; simp
  unfold DecI at *
  rw [htd, h, show Lib.decDigits m = Lib.decDigits (m / 10) ++ [UInt8.ofNat (48 + m % 10)] by rw [Lib.decDigits, dif_neg (by omega)]]
  simp
theorem decI_end {n m : Nat} {s t : ByteArray} (h : DecI n m s) (hm : m < 10) (ht : (ByteArray.mk #[UInt8.ofNat (48 + m % 10)]) ++ s = t) : t = itoS n := by
  have htd : t.data.toList = UInt8.ofNat (48 + m % 10) :: s.data.toList := by rw [← ht]; simp
  unfold DecI at h
  apply ByteArray.ext
  apply Array.ext'
  rw [htd]
  show _ = (Lib.itoa (n : Int)).toArray.toList
  unfold Lib.itoa
  rw [if_neg (by omega), Int.toNat_natCast, h, Lib.decDigits_one hm, Nat.mod_eq_of_lt hm]; rfl
theorem decI_size {n m : Nat} {s : ByteArray} (h : DecI n m s) : s.size ≤ Lib.nDigits n := by
  have hl : s.data.toList.length = s.size := by simp
  have := congrArg List.length h
  rw [List.length_append, Lib.decDigits_length, hl] at this
  omega
theorem nd20 (u : Nat) (hu : u < 18446744073709551616) : Lib.nDigits u ≤ 20 := by
  rcases Nat.eq_zero_or_pos u with h | h
  · subst h; rw [Lib.nDigits_small (by omega)]; omega
  · have := Lib.numDigits_eq u h hu; split at this <;> omega
set_option maxRecDepth 100000 in
set_option maxHeartbeats 1600000 in
theorem rdec_any (n : Nat) (w : World) (hn : n ≤ 9223372036854775807) : Calls Tryz.prog 82 #[.int .i64 n] w fun e w' => e = .returned (.string (itoS n)) ∧ w = w' := by
  have HST : Hid (DecI n n ⟨#[]⟩) := Lib.hid (by unfold DecI; simp)
  have H20 := Lib.hid (nd20 n (by omega))
  have n0 : ¬ (n : Int) < 0 := by omega
  go_enter Tryz.func82, Tryz.ntmps82
  go_name_bytes_deep 10 HL hHL
  have eHL : HL = decLit := by rw [← hHL]; decide +kernel
  subst eHL
  clear hHL
  go_wp2_with fail
  clear n0
  go_loopw [0, 4] (fun vn vs wr => ∃ (m : Nat) (s : ByteArray), vn = .int .i64 m ∧ vs = .string s ∧ m ≤ n ∧ s.size ≤ 20 ∧ wr = w ∧ Hid (DecI n m s)) (fun vn _ _ => (intOf vn).toNat)
  case atStart => exact ⟨n, ⟨#[]⟩, rfl, rfl, Nat.le_refl _, by show 0 ≤ 20; omega, rfl, HST⟩
  case round =>
    obtain ⟨m, s, rfl, rfl, hmn, hsz, rfl, hI⟩ := hrel
    obtain ⟨t, ht⟩ : ∃ t, (ByteArray.mk #[UInt8.ofNat (48 + m % 10)]) ++ s = t := ⟨_, rfl⟩
    have hsl : ∀ W, (Instr.slice 9 (.string decLit) (some (.int .i64 ((m : Int) % 10))) (some (.int .i64 ((m : Int) % 10 + 1))) none).run Tryz.prog W = .ok (.string ⟨#[UInt8.ofNat (48 + m % 10)]⟩) W := fun W => by
      rw [run_slice_string W 9 decLit .i64 .i64 _ _ Tryz.underlying9 (by omega) (by omega) (by rw [decLit_size]; omega), show ((m : Int) % 10).toNat = m % 10 by omega, show ((m : Int) % 10 + 1).toNat = m % 10 + 1 by omega, decLit_piece (m % 10) (by omega)]
    have h1sz : (ByteArray.mk #[UInt8.ofNat (48 + m % 10)]).size = 1 := rfl
    have d0 : ¬ (m : Int) % 10 < 0 := by omega
    have hm9 : m ≤ 9223372036854775807 := by omega
    by_cases hm : m < 10
    · have HE := Lib.hid (decI_end hI.out hm ht)
      have q : ((m : Int) / 10 == 0) = true := by rw [show (m : Int) / 10 = 0 by omega]; rfl
      clear hI hm hmn
      generalize UInt8.ofNat (48 + m % 10) = b at *
      go_wp2_with fail
      go_ret
      exact ⟨by rw [← HE.out]; rfl, rfl⟩
    · have HI2 := Lib.hid (decI_step hI.out (by omega) ht)
      have HT20 := Lib.hid (Nat.le_trans (decI_size HI2.out) H20.out)
      have q : ((m : Int) / 10 == 0) = false := by simp; omega
      have HM := Lib.hid hm
      clear hI hm
      generalize UInt8.ofNat (48 + m % 10) = b at *
      go_wp2_with fail
      go_roundw
      case rel => exact ⟨m / 10, t, by go_num, rfl, by omega, HT20.out, by first | rfl | trivial, HI2⟩
      case measure => have := HM.out; simp [intOf]; omega
theorem rnumber_any (n : Nat) (w : World) (hn : n ≤ 9223372036854775807) : Calls Tryz.prog 81 #[.int .i64 n] w fun e w' => e = .returned (.string (itoS n)) ∧ w = w' := by
  have HD := Lib.hid (fun W => rdec_any n W hn)
  go_enter Tryz.func81, Tryz.ntmps81
  go_wp2_with fail
  refine (HD.out _).mono ?_
  rintro e w' ⟨rfl, rfl⟩
  go_wp2_with fail
  go_ret
  exact ⟨rfl, rfl⟩
end Go.Proofs.YthflmdgfenojcaaGreatDoor
namespace Go.Proofs.YthflmdgfenojcaaGreatDoor
set_option linter.unusedVariables false
open Go.RowKit Go.Sort
theorem quiet_left {P : Program} {f : FuncId} {args : Array Value} {w : World} {n : Nat} {v : Value}
    (h : Calls P f args (w.drewN n) fun e w' => e = .returned v ∧ w.drewN n = w') : Calls P f args (w.drewN n) fun e w'' => e = .returned v ∧ ∃ m, w'' = w.drewN m :=
  h.mono fun _ _ ⟨he, hm⟩ => ⟨he, n, hm.symm⟩
def finT (b : Bool) : ByteArray := if b then ⟨#[124, 49]⟩ else ⟨#[124, 48]⟩
theorem enc_chain (r : Rec) : encS r = itoS r.k ++ (ByteArray.mk #[124]) ++ r.id ++ (ByteArray.mk #[124]) ++ r.au ++ (ByteArray.mk #[124]) ++ r.aq ++ (ByteArray.mk #[124]) ++ r.iss ++ (ByteArray.mk #[124]) ++ r.me ++ (ByteArray.mk #[124]) ++ r.ca ++ (ByteArray.mk #[124]) ++ itoS r.a ++ (ByteArray.mk #[124]) ++ r.cu ++ (ByteArray.mk #[124]) ++ itoS r.d ++ (ByteArray.mk #[124]) ++ itoS r.c ++ finT r.f := by
  apply ByteArray.ext
  apply Array.ext'
  show (Lib.join (r.texts.map (·.data.toList)) [124]) = _
  unfold Rec.texts
  rw [List.map_cons, join_tail]
  cases r.f <;> simp [Lib.joinTail, finT, finS]
theorem ito21 {v : Int} (h0 : -9223372036854775808 ≤ v) (h1 : v ≤ 9223372036854775807) : (itoS v).size ≤ 21 := Lib.itoa_length_le v h0 h1
set_option maxRecDepth 100000 in
set_option maxHeartbeats 12800000 in
theorem renc_any (r : Rec) (hr : r.Fit) (hsz : r.id.size + r.au.size + r.aq.size + r.iss.size + r.me.size + r.ca.size + r.cu.size ≤ 1000000) (w : World) : Calls Tryz.prog 34 #[r.val] w (EncPost r w) := by
  have HC := Lib.hid (fun W => rchk_any r hr W)
  have HI := Lib.hid (Fit.ints r)
  have HV := Lib.hid (show encV r = if chkE r = 0 then encS r else ⟨#[]⟩ from rfl)
  have HS := Lib.hid (enc_chain r)
  unfold EncPost
  unfold PtPost at HC
  generalize chkE r = CE at *
  generalize encV r = EV at *
  generalize encS r = ES at *
  obtain ⟨K, id, au, aq, iss, me, ca, a, cu, d, c, f⟩ := r
  unfold Rec.val Rec.cells at *
  dsimp only at *
  clear hr
  cases q : (CE != 0)
  case true =>
    have hne : CE ≠ 0 := by simpa using q
    have HE := Lib.hid (show EV = ⟨#[]⟩ by rw [HV.out, if_neg hne])
    clear hne
    go_enter Tryz.func34, Tryz.ntmps34
    go_wp2_with fail
    refine (HC.out _).mono ?_
    rintro e w1 ⟨rfl, hb⟩
    obtain ⟨hk1, -, hb1⟩ := box1 hb
    have HB := Lib.hid hb1
    have HK := Lib.hid hk1
    clear hb hk1 hb1
    obtain ⟨-, r0, r1, r2, r3, r4, r5, r6, r7, r8, r9, r10, r11⟩ := row12 (Below.refl _ _) HK.out
    go_wp2_with fail
    refine (HC.out _).mono ?_
    rintro e w2 ⟨rfl, hb⟩
    have HB2 := Lib.hid (HB.out.trans (hb.mono HB.out.size))
    clear hb r0 r1 r2 r3 r4 r5 r6 r7 r8 r9 r10 r11
    go_wp2_with fail
    go_ret2
    exact ⟨by rw [HE.out]; rfl, HB2.out⟩
  case false =>
    have h0 : CE = 0 := by simpa using q
    subst h0
    have HE := Lib.hid (show EV = ES by rw [HV.out, if_pos rfl])
    obtain ⟨i1, i2, i3, i4, i5, i6, i7, i8⟩ := HI.out rfl
    clear q
    obtain ⟨kN, rfl⟩ : ∃ n : Nat, K = n := ⟨K.toNat, by omega⟩
    obtain ⟨aN, rfl⟩ : ∃ n : Nat, a = n := ⟨a.toNat, by omega⟩
    obtain ⟨dN, rfl⟩ : ∃ n : Nat, d = n := ⟨d.toNat, by omega⟩
    obtain ⟨cN, rfl⟩ : ∃ n : Nat, c = n := ⟨c.toNat, by omega⟩
    have D1 := Lib.hid (fun W => rnumber_any kN W (by omega))
    have D2 := Lib.hid (fun W => rdec_any aN W (by omega))
    have D3 := Lib.hid (fun W => rnumber_any dN W (by omega))
    have D4 := Lib.hid (fun W => rnumber_any cN W (by omega))
    have z1 := ito21 (v := (kN : Int)) (by omega) (by omega)
    have z2 := ito21 (v := (aN : Int)) (by omega) (by omega)
    have z3 := ito21 (v := (dN : Int)) (by omega) (by omega)
    have z4 := ito21 (v := (cN : Int)) (by omega) (by omega)
    generalize itoS (kN : Int) = S1 at *
    generalize itoS (aN : Int) = S2 at *
    generalize itoS (dN : Int) = S3 at *
    generalize itoS (cN : Int) = S4 at *
    have hbz : ((ByteArray.mk #[124])).size = 1 := rfl
    have cat1 := fun W => run_string_add_sum (P := Tryz.prog) (w := W) S1 (ByteArray.mk #[124]) (by omega)
    obtain ⟨T1, hT1⟩ : ∃ T, S1 ++ (ByteArray.mk #[124]) = T := ⟨_, rfl⟩
    have hT1z : T1.size ≤ 22 := by rw [← hT1, ByteArray.size_append]; omega
    rw [hT1] at cat1 HS
    have cat2 := fun W => run_string_add_sum (P := Tryz.prog) (w := W) T1 id (by omega)
    obtain ⟨T2, hT2⟩ : ∃ T, T1 ++ id = T := ⟨_, rfl⟩
    have hT2z : T2.size ≤ 1000022 := by rw [← hT2, ByteArray.size_append]; omega
    rw [hT2] at cat2 HS
    have cat3 := fun W => run_string_add_sum (P := Tryz.prog) (w := W) T2 (ByteArray.mk #[124]) (by omega)
    obtain ⟨T3, hT3⟩ : ∃ T, T2 ++ (ByteArray.mk #[124]) = T := ⟨_, rfl⟩
    have hT3z : T3.size ≤ 1000023 := by rw [← hT3, ByteArray.size_append]; omega
    rw [hT3] at cat3 HS
    have cat4 := fun W => run_string_add_sum (P := Tryz.prog) (w := W) T3 au (by omega)
    obtain ⟨T4, hT4⟩ : ∃ T, T3 ++ au = T := ⟨_, rfl⟩
    have hT4z : T4.size ≤ 2000023 := by rw [← hT4, ByteArray.size_append]; omega
    rw [hT4] at cat4 HS
    have cat5 := fun W => run_string_add_sum (P := Tryz.prog) (w := W) T4 (ByteArray.mk #[124]) (by omega)
    obtain ⟨T5, hT5⟩ : ∃ T, T4 ++ (ByteArray.mk #[124]) = T := ⟨_, rfl⟩
    have hT5z : T5.size ≤ 2000024 := by rw [← hT5, ByteArray.size_append]; omega
    rw [hT5] at cat5 HS
    have cat6 := fun W => run_string_add_sum (P := Tryz.prog) (w := W) T5 aq (by omega)
    obtain ⟨T6, hT6⟩ : ∃ T, T5 ++ aq = T := ⟨_, rfl⟩
    have hT6z : T6.size ≤ 3000024 := by rw [← hT6, ByteArray.size_append]; omega
    rw [hT6] at cat6 HS
    have cat7 := fun W => run_string_add_sum (P := Tryz.prog) (w := W) T6 (ByteArray.mk #[124]) (by omega)
    obtain ⟨T7, hT7⟩ : ∃ T, T6 ++ (ByteArray.mk #[124]) = T := ⟨_, rfl⟩
    have hT7z : T7.size ≤ 3000025 := by rw [← hT7, ByteArray.size_append]; omega
    rw [hT7] at cat7 HS
    have cat8 := fun W => run_string_add_sum (P := Tryz.prog) (w := W) T7 iss (by omega)
    obtain ⟨T8, hT8⟩ : ∃ T, T7 ++ iss = T := ⟨_, rfl⟩
    have hT8z : T8.size ≤ 4000025 := by rw [← hT8, ByteArray.size_append]; omega
    rw [hT8] at cat8 HS
    have cat9 := fun W => run_string_add_sum (P := Tryz.prog) (w := W) T8 (ByteArray.mk #[124]) (by omega)
    obtain ⟨T9, hT9⟩ : ∃ T, T8 ++ (ByteArray.mk #[124]) = T := ⟨_, rfl⟩
    have hT9z : T9.size ≤ 4000026 := by rw [← hT9, ByteArray.size_append]; omega
    rw [hT9] at cat9 HS
    have cat10 := fun W => run_string_add_sum (P := Tryz.prog) (w := W) T9 me (by omega)
    obtain ⟨T10, hT10⟩ : ∃ T, T9 ++ me = T := ⟨_, rfl⟩
    have hT10z : T10.size ≤ 5000026 := by rw [← hT10, ByteArray.size_append]; omega
    rw [hT10] at cat10 HS
    have cat11 := fun W => run_string_add_sum (P := Tryz.prog) (w := W) T10 (ByteArray.mk #[124]) (by omega)
    obtain ⟨T11, hT11⟩ : ∃ T, T10 ++ (ByteArray.mk #[124]) = T := ⟨_, rfl⟩
    have hT11z : T11.size ≤ 5000027 := by rw [← hT11, ByteArray.size_append]; omega
    rw [hT11] at cat11 HS
    have cat12 := fun W => run_string_add_sum (P := Tryz.prog) (w := W) T11 ca (by omega)
    obtain ⟨T12, hT12⟩ : ∃ T, T11 ++ ca = T := ⟨_, rfl⟩
    have hT12z : T12.size ≤ 6000027 := by rw [← hT12, ByteArray.size_append]; omega
    rw [hT12] at cat12 HS
    have cat13 := fun W => run_string_add_sum (P := Tryz.prog) (w := W) T12 (ByteArray.mk #[124]) (by omega)
    obtain ⟨T13, hT13⟩ : ∃ T, T12 ++ (ByteArray.mk #[124]) = T := ⟨_, rfl⟩
    have hT13z : T13.size ≤ 6000028 := by rw [← hT13, ByteArray.size_append]; omega
    rw [hT13] at cat13 HS
    have cat14 := fun W => run_string_add_sum (P := Tryz.prog) (w := W) T13 S2 (by omega)
    obtain ⟨T14, hT14⟩ : ∃ T, T13 ++ S2 = T := ⟨_, rfl⟩
    have hT14z : T14.size ≤ 6000049 := by rw [← hT14, ByteArray.size_append]; omega
    rw [hT14] at cat14 HS
    have cat15 := fun W => run_string_add_sum (P := Tryz.prog) (w := W) T14 (ByteArray.mk #[124]) (by omega)
    obtain ⟨T15, hT15⟩ : ∃ T, T14 ++ (ByteArray.mk #[124]) = T := ⟨_, rfl⟩
    have hT15z : T15.size ≤ 6000050 := by rw [← hT15, ByteArray.size_append]; omega
    rw [hT15] at cat15 HS
    have cat16 := fun W => run_string_add_sum (P := Tryz.prog) (w := W) T15 cu (by omega)
    obtain ⟨T16, hT16⟩ : ∃ T, T15 ++ cu = T := ⟨_, rfl⟩
    have hT16z : T16.size ≤ 7000050 := by rw [← hT16, ByteArray.size_append]; omega
    rw [hT16] at cat16 HS
    have cat17 := fun W => run_string_add_sum (P := Tryz.prog) (w := W) T16 (ByteArray.mk #[124]) (by omega)
    obtain ⟨T17, hT17⟩ : ∃ T, T16 ++ (ByteArray.mk #[124]) = T := ⟨_, rfl⟩
    have hT17z : T17.size ≤ 7000051 := by rw [← hT17, ByteArray.size_append]; omega
    rw [hT17] at cat17 HS
    have cat18 := fun W => run_string_add_sum (P := Tryz.prog) (w := W) T17 S3 (by omega)
    obtain ⟨T18, hT18⟩ : ∃ T, T17 ++ S3 = T := ⟨_, rfl⟩
    have hT18z : T18.size ≤ 7000072 := by rw [← hT18, ByteArray.size_append]; omega
    rw [hT18] at cat18 HS
    have cat19 := fun W => run_string_add_sum (P := Tryz.prog) (w := W) T18 (ByteArray.mk #[124]) (by omega)
    obtain ⟨T19, hT19⟩ : ∃ T, T18 ++ (ByteArray.mk #[124]) = T := ⟨_, rfl⟩
    have hT19z : T19.size ≤ 7000073 := by rw [← hT19, ByteArray.size_append]; omega
    rw [hT19] at cat19 HS
    have cat20 := fun W => run_string_add_sum (P := Tryz.prog) (w := W) T19 S4 (by omega)
    obtain ⟨T20, hT20⟩ : ∃ T, T19 ++ S4 = T := ⟨_, rfl⟩
    have hT20z : T20.size ≤ 7000094 := by rw [← hT20, ByteArray.size_append]; omega
    rw [hT20] at cat20 HS
    have catY := fun W => run_string_add_sum (P := Tryz.prog) (w := W) T20 (ByteArray.mk #[124, 49]) (by have : (ByteArray.mk #[124, 49]).size = 2 := rfl; omega)
    have catN := fun W => run_string_add_sum (P := Tryz.prog) (w := W) T20 (ByteArray.mk #[124, 48]) (by have : (ByteArray.mk #[124, 48]).size = 2 := rfl; omega)
    clear hT1 hT2 hT3 hT4 hT5 hT6 hT7 hT8 hT9 hT10 hT11 hT12 hT13 hT14 hT15 hT16 hT17 hT18 hT19 hT20 z1 z2 z3 z4 hbz hsz i1 i2 i3 i4 i5 i6 i7 i8
    obtain ⟨TF, hTF⟩ : ∃ T, T20 ++ (ByteArray.mk #[124, 48]) = T := ⟨_, rfl⟩
    obtain ⟨TT, hTT⟩ : ∃ T, T20 ++ (ByteArray.mk #[124, 49]) = T := ⟨_, rfl⟩
    rw [hTT] at catY
    rw [hTF] at catN
    have HFT := Lib.hid (And.intro hTF hTT)
    clear hTF hTT
    go_enter Tryz.func34, Tryz.ntmps34
    go_wp2_with fail
    refine (HC.out _).mono ?_
    rintro e w1 ⟨rfl, hb⟩
    obtain ⟨hk1, -, hb1⟩ := box1 hb
    have HB := Lib.hid hb1
    have HK := Lib.hid hk1
    clear hb hk1 hb1
    obtain ⟨-, r0, r1, r2, r3, r4, r5, r6, r7, r8, r9, r10, r11⟩ := row12 (Below.refl _ _) HK.out
    go_wp2_with fail
    go_quiet ((go_at_call 81; with_reducible exact quiet_left (D1.out _)))
    go_wp2_with fail
    rename Nat => nq
    clear r0 r1 r2 r3 r4 r5 r6 r7 r8 r9 r10 r11
    have HB2 := Lib.hid (show Below w.heap.size w (w1.drewN nq) from dNb HB.out _)
    have HK2 := Lib.hid (show (w1.drewN nq).heap[w.heap.size]? = some (.cells #[.int .i64 (kN : Int), .string id, .string au, .string aq, .string iss, .string me, .string ca, .int .i64 (aN : Int), .string cu, .int .i64 (dN : Int), .int .i64 (cN : Int), .bool f] 57) from HK.out)
    generalize w1.drewN nq = w2 at *
    obtain ⟨-, r0, r1, r2, r3, r4, r5, r6, r7, r8, r9, r10, r11⟩ := row12 (Below.refl _ _) HK2.out
    go_quiet ((first | (go_at_call 82; with_reducible exact quiet_left (D2.out _)) | (go_at_call 81; with_reducible exact quiet_left (D3.out _)) | (go_at_call 81; with_reducible exact quiet_left (D4.out _))))
    cases f with
    | false =>
      go_wp2_with fail
      go_ret2
      exact ⟨by rw [HE.out, HS.out, show finT false = ByteArray.mk #[124, 48] from rfl, HFT.out.1]; rfl, dNb HB2.out _⟩
    | true =>
      go_wp2_with fail
      go_ret2
      exact ⟨by rw [HE.out, HS.out, show finT true = ByteArray.mk #[124, 49] from rfl, HFT.out.2]; rfl, dNb HB2.out _⟩
end Go.Proofs.YthflmdgfenojcaaGreatDoor
namespace Go.Proofs.YthflmdgfenojcaaGreatDoor
set_option linter.unusedVariables false
open Go.RowKit Go.Sort
def RSumPost (l : List Rec) (w : World) (e : Ending) (w' : World) : Prop := e = .returned (totV l.length (debS l l.length) (creS l l.length) (C7.totB (cardsOf l))) ∧ Below w.heap.size w w'
structure SmR (n : Nat) (D C : Int) (cs : List ByteArray) (w W : World) (v4 : Value) : Prop where
  z : W.heap[w.heap.size]? = some (.cells #[.int .i64 0, .int .i64 0, .int .i64 0, .int .i64 0] 48)
  t : W.heap[w.heap.size + 1]? = some (.cells #[.int .i64 n, .int .i64 D, .int .i64 C, .int .i64 0] 48)
  o : W.ownsRow (w.heap.size + 2) 9 1 v4 cs.length (cs.map Value.string)
  b : Below w.heap.size w W
section
variable {n : Nat} {D C : Int} {cs : List ByteArray} {w W W' : World} {v u : Value}
theorem SmR.set1 (h : SmR n D C cs w W v) (x : Int) : SmR n x C cs w (W.setCell ⟨w.heap.size + 1, 1, none⟩ (.int .i64 x)) v :=
  ⟨(Below.heap_setCell _ _ _ _ (by simp)).trans h.z, by rw [heap_set1 h.t 1 _]; rfl, own_set h.o (by omega), h.b.setCell (p := ⟨w.heap.size + 1, 1, none⟩) (Nat.le_succ _) _⟩
theorem SmR.set2 (h : SmR n D C cs w W v) (x : Int) : SmR n D x cs w (W.setCell ⟨w.heap.size + 1, 2, none⟩ (.int .i64 x)) v :=
  ⟨(Below.heap_setCell _ _ _ _ (by simp)).trans h.z, by rw [heap_set1 h.t 2 _]; rfl, own_set h.o (by omega), h.b.setCell (p := ⟨w.heap.size + 1, 2, none⟩) (Nat.le_succ _) _⟩
theorem SmR.below (h : SmR n D C cs w W v) (hb : Below W.heap.size W W') : SmR n D C cs w W' v :=
  ⟨blk_later h.z hb, blk_later h.t hb, own_later h.o hb, h.b.trans (hb.mono h.b.size)⟩
theorem SmR.app (h : SmR n D C cs w W v) (s : ByteArray) (ho : W'.ownsRow (w.heap.size + 2) 9 1 u (cs.length + 1) (cs.map Value.string ++ [.string s])) (hg : W.grownBy W' v.ownBlock) : SmR n D C (cs ++ [s]) w W' u :=
  ⟨grown_lt (B := 0) hg h.z (own_far h.o (by omega)), grown_lt (B := 0) hg h.t (own_far h.o (by omega)), by rw [List.length_append, List.map_append]; simpa using ho, h.b.grown hg h.b.size (fun j hj => by have := (h.o.lt j hj).1; omega)⟩
theorem SmR.set3 (h : SmR n D C cs w W v) (T : Int) : (W.setCell ⟨w.heap.size + 1, 3, none⟩ (.int .i64 T)).heap[w.heap.size]? = some (.cells #[.int .i64 0, .int .i64 0, .int .i64 0, .int .i64 0] 48) ∧ (W.setCell ⟨w.heap.size + 1, 3, none⟩ (.int .i64 T)).heap[w.heap.size + 1]? = some (.cells #[.int .i64 n, .int .i64 D, .int .i64 C, .int .i64 T] 48) :=
  ⟨(Below.heap_setCell _ _ _ _ (by simp)).trans h.z, by rw [heap_set1 h.t 3 _]; rfl⟩
theorem SmR.end (h : SmR n D C cs w W v) (T : Int) (x : Array Value) : ((W.setCell ⟨w.heap.size + 1, 3, none⟩ (.int .i64 T)).setRow w.heap.size x).heap[w.heap.size]? = some (.cells x 48) ∧ Below w.heap.size w ((W.setCell ⟨w.heap.size + 1, 3, none⟩ (.int .i64 T)).setRow w.heap.size x) :=
  ⟨setRow_heap _ _ _ _ _ _ (h.set3 T).1, below_setRow (h.b.setCell (p := ⟨w.heap.size + 1, 3, none⟩) (Nat.le_succ _) _) (Nat.le_refl _) _⟩
theorem new_set (W : World) (p : Addr) (x : Value) (o : Obj) : ((W.setCell p x).alloc o).heap[W.heap.size]? = some o := by
  have := heap_alloc_new (W.setCell p x) o
  have e : (W.setCell p x).heap.size = W.heap.size := by simp [World.setCell]
  rwa [e] at this
end
theorem info48 (a b c d : Int) : (Tryz.prog.info? 48).map (·.size) = some (#[Value.int .i64 a, .int .i64 b, .int .i64 c, .int .i64 d]).size := by kernel_rfl
theorem results_row1 {P : Program} {fn : Func} {p : Tmp} {ty : TypeId} (h : fn.results = #[.cell p ty]) (tmps : Array Value) (w : World) (g : Nat) (t : TypeId) (cs : Array Value) (fr : Nat × Nat) (d : TypeDesc)
    (hp : tmps.getD p undef = .pointer (some ⟨g, 0, none⟩)) (hg : w.heap[g]? = some (.cells cs t fr))
    (hu : P.underlying ty = some d) (hd : (match d with | .struct _ | .array _ _ => true | _ => false) = true) (hi : (P.info? ty).map (·.size) = some cs.size) :
    (results fn tmps).run P w = .ok (.agg cs) w := by
  have hp' : tmps[p]?.getD undef = .pointer (some ⟨g, 0, none⟩) := by simpa using hp
  simp [results, h, hp', asAddr, run_loadVar_row w g t ty cs fr d hg hu hd hi]
theorem amt_out {r : Rec} (h : r.a < 0 ∨ 999999999999 < r.a) : amtR r = 0 := by unfold amtR; rw [if_pos h]
theorem amt_in {r : Rec} (h : ¬ r.a < 0) (h2 : ¬ 999999999999 < r.a) : amtR r = r.a := by unfold amtR; rw [if_neg (by omega)]
set_option maxRecDepth 1000000 in
set_option maxHeartbeats 25600000 in
theorem rbsum_any (A : Option Addr) (cp : Nat) (l : List Rec) (w : World) (hr : IsRow w A (l.flatMap recF)) (hok : ∀ x ∈ l, x.Fit) (hm : l.length ≤ 1000000) : Calls Tryz.prog 46 #[.slice A l.length cp] w (RSumPost l w) := by
  obtain ⟨i9, hi9, hy0, hy1, hy2⟩ := info_parts info9
  have HI := Lib.hid (And.intro hi9 (And.intro hy0 (And.intro hy1 hy2)))
  have HR := Lib.hid hr
  have HOK := Lib.hid hok
  clear hi9 hy0 hy1 hy2 hr hok
  have HW0 : Hid (SmR l.length 0 0 [] w ((w.alloc (.cells #[.int .i64 0, .int .i64 0, .int .i64 0, .int .i64 0] 48)).alloc (.cells #[.int .i64 l.length, .int .i64 0, .int .i64 0, .int .i64 0] 48)) (.slice none 0 0)) := Lib.hid (by
    have hb := box2 (Below.refl _ ((w.alloc (.cells #[.int .i64 0, .int .i64 0, .int .i64 0, .int .i64 0] 48)).alloc (.cells #[.int .i64 l.length, .int .i64 0, .int .i64 0, .int .i64 0] 48)))
    exact ⟨hb.1, hb.2.1, World.ownsRow_nil _ _ _ _, hb.2.2⟩)
  go_enter Tryz.func46, Tryz.ntmps46
  go_wp2_with fail
  go_loopw [4, 5] (fun v4 i wr => ∃ k : Nat, k ≤ l.length ∧ i = .int .i64 k ∧ Hid (SmR l.length (debS l k) (creS l k) (cardsOf (l.take k)) w wr v4)) (fun _ i _ => l.length - (intOf i).toNat)
  case atStart => exact ⟨0, Nat.zero_le _, rfl, HW0⟩
  case round =>
    clear HW0
    obtain ⟨k, hk, rfl, HW⟩ := hrel
    by_cases hlt : k < l.length
    · rcases row_rc HR.out k hlt with ⟨b, off, rfl, hcell⟩
      have HC := Lib.hid ((hcell k hlt).later HW.out.b)
      have hds := debS_bd l k (by omega)
      have hcs := creS_bd l k (by omega)
      have HND := Lib.hid (debS_succ l k hlt)
      have HNC := Lib.hid (creS_succ l k hlt)
      have HCD : Hid (cardsOf (l.take (k + 1)) = cardsOf (l.take k) ++ [(rcAt l k).ca]) := Lib.hid (by unfold cardsOf; rw [List.take_succ_eq_append_getElem hlt, List.map_append, rcAt_get l k hlt]; rfl)
      have HDR : Hid (debR (rcAt l k) = if (rcAt l k).k = 1 ∨ (rcAt l k).k = 4 then amtR (rcAt l k) else 0) := Lib.hid rfl
      have HCRR : Hid (creR (rcAt l k) = if (rcAt l k).k = 2 ∨ (rcAt l k).k = 3 then amtR (rcAt l k) else 0) := Lib.hid rfl
      have HAO := Lib.hid (amt_out (r := rcAt l k))
      have HAI := Lib.hid (amt_in (r := rcAt l k))
      have hcl : (cardsOf (l.take k)).length = k := by unfold cardsOf; rw [List.length_map, List.length_take]; omega
      generalize debR (rcAt l k) = dr at *
      generalize creR (rcAt l k) = cr at *
      generalize amtR (rcAt l k) = am at *
      generalize debS l k = D at *
      generalize creS l k = C at *
      generalize cardsOf (l.take k) = cc at *
      generalize rcAt l k = r at *
      obtain ⟨K, id, au, aq, is, me, ca, a, cu, d, c, f⟩ := r
      have c0 := HC.out.c0
      have c6 := HC.out.c6
      have c7 := HC.out.c7
      dsimp only at c0 c6 c7 HDR HCRR HAO HAI HCD
      have t1 := cell_c HW.out.t 1
      have t2 := cell_c HW.out.t 2
      have p1 := cell_f HW.out.t 1
      have p2 := cell_f HW.out.t 2
      simp at t1 t2
      have hwl : w.heap.size + 1 < wr.heap.size := (Array.getElem?_eq_some_iff.1 HW.out.t).1
      have hbl : b < w.heap.size := World.block_lt_of_cell? w _ (hcell k hlt).c0
      have hbne : ¬ b = w.heap.size + 1 := by omega
      have kI : (k : Int) < (l.length : Int) := by omega
      have k0 : (0 : Int) ≤ (k : Int) := by omega
      clear hcell
      have hA : a < 0 ∨ (¬ a < 0 ∧ 999999999999 < a) ∨ (¬ a < 0 ∧ ¬ 999999999999 < a) := by omega
      have hK : K = 1 ∨ K = 4 ∨ K = 2 ∨ K = 3 ∨ (¬ K = 1 ∧ ¬ K = 4 ∧ ¬ K = 2 ∧ ¬ K = 3) := by omega
      rcases hA with hA | ⟨hA, hA2⟩ | ⟨hA, hA2⟩
      · rcases hK with hK | hK | hK | hK | hK
        · have ham : am = 0 := HAO.out (.inl hA)
          subst hK
          have hdr : dr = am := by rw [HDR.out, if_pos (by omega)]
          have hcr : cr = 0 := by rw [HCRR.out, if_neg (by omega)]
          have HE1 : Hid (debS l (k + 1) = D ∧ creS l (k + 1) = C) := Lib.hid (by have h1 := HND.out; have h2 := HNC.out; omega)
          have HX : Hid (SmR l.length D C cc w (wr.setCell ⟨w.heap.size + 1, 1, none⟩ (.int .i64 D)) u4) := Lib.hid (HW.out.set1 D)
          clear ham hdr hcr HDR HCRR HAO HAI
          go_wp2_with (at_builtin; refine wpList_append_own _ rfl (.tmp 49) (.tmp 55) _ rfl (w.heap.size + 2) 9 i9 _ 1 16 Tryz.underlying22 HI.out.1 HI.out.2.1 HI.out.2.2.1 HI.out.2.2.2 rfl (by omega) _ _ _ rfl (HX.out.o.alloc _) ⟨wr.heap.size, 0, none⟩ 1 1 [.string ca] rfl rfl (World.news_of_block (cs := #[.string ca]) (t := 9) (fr := (0, 0)) (new_set wr _ _ _)) (by simp [Value.oneCell']) (by unfold maxLen; omega) (by omega) (by simp; omega) ?_; intro v9 w3 hown hgrow hnil; have HA3 := Lib.hid hown; have HG3 := Lib.hid hgrow; clear hown hgrow hnil)
          have HF := Lib.hid ((HX.out.below (bx _ _)).app ca HA3.out HG3.out)
          have HF : Hid (SmR l.length (debS l (k + 1)) (creS l (k + 1)) (cardsOf (l.take (k + 1))) w w3 v9) := Lib.hid (by rw [HE1.out.1, HE1.out.2, HCD.out]; exact HF.out)
          refine ⟨⟨k + 1, by omega, by go_num, HF⟩, by simp [intOf]; omega⟩
        · have ham : am = 0 := HAO.out (.inl hA)
          subst hK
          have hdr : dr = am := by rw [HDR.out, if_pos (by omega)]
          have hcr : cr = 0 := by rw [HCRR.out, if_neg (by omega)]
          have HE1 : Hid (debS l (k + 1) = D ∧ creS l (k + 1) = C) := Lib.hid (by have h1 := HND.out; have h2 := HNC.out; omega)
          have HX : Hid (SmR l.length D C cc w (wr.setCell ⟨w.heap.size + 1, 1, none⟩ (.int .i64 D)) u4) := Lib.hid (HW.out.set1 D)
          clear ham hdr hcr HDR HCRR HAO HAI
          go_wp2_with (at_builtin; refine wpList_append_own _ rfl (.tmp 49) (.tmp 55) _ rfl (w.heap.size + 2) 9 i9 _ 1 16 Tryz.underlying22 HI.out.1 HI.out.2.1 HI.out.2.2.1 HI.out.2.2.2 rfl (by omega) _ _ _ rfl (HX.out.o.alloc _) ⟨wr.heap.size, 0, none⟩ 1 1 [.string ca] rfl rfl (World.news_of_block (cs := #[.string ca]) (t := 9) (fr := (0, 0)) (new_set wr _ _ _)) (by simp [Value.oneCell']) (by unfold maxLen; omega) (by omega) (by simp; omega) ?_; intro v9 w3 hown hgrow hnil; have HA3 := Lib.hid hown; have HG3 := Lib.hid hgrow; clear hown hgrow hnil)
          have HF := Lib.hid ((HX.out.below (bx _ _)).app ca HA3.out HG3.out)
          have HF : Hid (SmR l.length (debS l (k + 1)) (creS l (k + 1)) (cardsOf (l.take (k + 1))) w w3 v9) := Lib.hid (by rw [HE1.out.1, HE1.out.2, HCD.out]; exact HF.out)
          refine ⟨⟨k + 1, by omega, by go_num, HF⟩, by simp [intOf]; omega⟩
        · have ham : am = 0 := HAO.out (.inl hA)
          subst hK
          have hdr : dr = 0 := by rw [HDR.out, if_neg (by omega)]
          have hcr : cr = am := by rw [HCRR.out, if_pos (by omega)]
          have HE1 : Hid (debS l (k + 1) = D ∧ creS l (k + 1) = C) := Lib.hid (by have h1 := HND.out; have h2 := HNC.out; omega)
          have HX : Hid (SmR l.length D C cc w (wr.setCell ⟨w.heap.size + 1, 2, none⟩ (.int .i64 C)) u4) := Lib.hid (HW.out.set2 C)
          clear ham hdr hcr HDR HCRR HAO HAI
          go_wp2_with (at_builtin; refine wpList_append_own _ rfl (.tmp 49) (.tmp 55) _ rfl (w.heap.size + 2) 9 i9 _ 1 16 Tryz.underlying22 HI.out.1 HI.out.2.1 HI.out.2.2.1 HI.out.2.2.2 rfl (by omega) _ _ _ rfl (HX.out.o.alloc _) ⟨wr.heap.size, 0, none⟩ 1 1 [.string ca] rfl rfl (World.news_of_block (cs := #[.string ca]) (t := 9) (fr := (0, 0)) (new_set wr _ _ _)) (by simp [Value.oneCell']) (by unfold maxLen; omega) (by omega) (by simp; omega) ?_; intro v9 w3 hown hgrow hnil; have HA3 := Lib.hid hown; have HG3 := Lib.hid hgrow; clear hown hgrow hnil)
          have HF := Lib.hid ((HX.out.below (bx _ _)).app ca HA3.out HG3.out)
          have HF : Hid (SmR l.length (debS l (k + 1)) (creS l (k + 1)) (cardsOf (l.take (k + 1))) w w3 v9) := Lib.hid (by rw [HE1.out.1, HE1.out.2, HCD.out]; exact HF.out)
          refine ⟨⟨k + 1, by omega, by go_num, HF⟩, by simp [intOf]; omega⟩
        · have ham : am = 0 := HAO.out (.inl hA)
          subst hK
          have hdr : dr = 0 := by rw [HDR.out, if_neg (by omega)]
          have hcr : cr = am := by rw [HCRR.out, if_pos (by omega)]
          have HE1 : Hid (debS l (k + 1) = D ∧ creS l (k + 1) = C) := Lib.hid (by have h1 := HND.out; have h2 := HNC.out; omega)
          have HX : Hid (SmR l.length D C cc w (wr.setCell ⟨w.heap.size + 1, 2, none⟩ (.int .i64 C)) u4) := Lib.hid (HW.out.set2 C)
          clear ham hdr hcr HDR HCRR HAO HAI
          go_wp2_with (at_builtin; refine wpList_append_own _ rfl (.tmp 49) (.tmp 55) _ rfl (w.heap.size + 2) 9 i9 _ 1 16 Tryz.underlying22 HI.out.1 HI.out.2.1 HI.out.2.2.1 HI.out.2.2.2 rfl (by omega) _ _ _ rfl (HX.out.o.alloc _) ⟨wr.heap.size, 0, none⟩ 1 1 [.string ca] rfl rfl (World.news_of_block (cs := #[.string ca]) (t := 9) (fr := (0, 0)) (new_set wr _ _ _)) (by simp [Value.oneCell']) (by unfold maxLen; omega) (by omega) (by simp; omega) ?_; intro v9 w3 hown hgrow hnil; have HA3 := Lib.hid hown; have HG3 := Lib.hid hgrow; clear hown hgrow hnil)
          have HF := Lib.hid ((HX.out.below (bx _ _)).app ca HA3.out HG3.out)
          have HF : Hid (SmR l.length (debS l (k + 1)) (creS l (k + 1)) (cardsOf (l.take (k + 1))) w w3 v9) := Lib.hid (by rw [HE1.out.1, HE1.out.2, HCD.out]; exact HF.out)
          refine ⟨⟨k + 1, by omega, by go_num, HF⟩, by simp [intOf]; omega⟩
        · have ham : am = 0 := HAO.out (.inl hA)
          obtain ⟨n1, n2, n3, n4⟩ := hK
          have hdr : dr = 0 := by rw [HDR.out, if_neg (by omega)]
          have hcr : cr = 0 := by rw [HCRR.out, if_neg (by omega)]
          have HE1 : Hid (debS l (k + 1) = D ∧ creS l (k + 1) = C) := Lib.hid (by have h1 := HND.out; have h2 := HNC.out; omega)
          have HX : Hid (SmR l.length D C cc w wr u4) := Lib.hid (HW.out)
          clear ham hdr hcr HDR HCRR HAO HAI
          go_wp2_with (at_builtin; refine wpList_append_own _ rfl (.tmp 49) (.tmp 55) _ rfl (w.heap.size + 2) 9 i9 _ 1 16 Tryz.underlying22 HI.out.1 HI.out.2.1 HI.out.2.2.1 HI.out.2.2.2 rfl (by omega) _ _ _ rfl (HX.out.o.alloc _) ⟨wr.heap.size, 0, none⟩ 1 1 [.string ca] rfl rfl (World.news_of_block (cs := #[.string ca]) (t := 9) (fr := (0, 0)) (heap_alloc_new wr _)) (by simp [Value.oneCell']) (by unfold maxLen; omega) (by omega) (by simp; omega) ?_; intro v9 w3 hown hgrow hnil; have HA3 := Lib.hid hown; have HG3 := Lib.hid hgrow; clear hown hgrow hnil)
          have HF := Lib.hid ((HX.out.below (bx _ _)).app ca HA3.out HG3.out)
          have HF : Hid (SmR l.length (debS l (k + 1)) (creS l (k + 1)) (cardsOf (l.take (k + 1))) w w3 v9) := Lib.hid (by rw [HE1.out.1, HE1.out.2, HCD.out]; exact HF.out)
          refine ⟨⟨k + 1, by omega, by go_num, HF⟩, by simp [intOf]; omega⟩
      · rcases hK with hK | hK | hK | hK | hK
        · have ham : am = 0 := HAO.out (.inr hA2)
          subst hK
          have hdr : dr = am := by rw [HDR.out, if_pos (by omega)]
          have hcr : cr = 0 := by rw [HCRR.out, if_neg (by omega)]
          have HE1 : Hid (debS l (k + 1) = D ∧ creS l (k + 1) = C) := Lib.hid (by have h1 := HND.out; have h2 := HNC.out; omega)
          have HX : Hid (SmR l.length D C cc w (wr.setCell ⟨w.heap.size + 1, 1, none⟩ (.int .i64 D)) u4) := Lib.hid (HW.out.set1 D)
          clear ham hdr hcr HDR HCRR HAO HAI
          go_wp2_with (at_builtin; refine wpList_append_own _ rfl (.tmp 49) (.tmp 55) _ rfl (w.heap.size + 2) 9 i9 _ 1 16 Tryz.underlying22 HI.out.1 HI.out.2.1 HI.out.2.2.1 HI.out.2.2.2 rfl (by omega) _ _ _ rfl (HX.out.o.alloc _) ⟨wr.heap.size, 0, none⟩ 1 1 [.string ca] rfl rfl (World.news_of_block (cs := #[.string ca]) (t := 9) (fr := (0, 0)) (new_set wr _ _ _)) (by simp [Value.oneCell']) (by unfold maxLen; omega) (by omega) (by simp; omega) ?_; intro v9 w3 hown hgrow hnil; have HA3 := Lib.hid hown; have HG3 := Lib.hid hgrow; clear hown hgrow hnil)
          have HF := Lib.hid ((HX.out.below (bx _ _)).app ca HA3.out HG3.out)
          have HF : Hid (SmR l.length (debS l (k + 1)) (creS l (k + 1)) (cardsOf (l.take (k + 1))) w w3 v9) := Lib.hid (by rw [HE1.out.1, HE1.out.2, HCD.out]; exact HF.out)
          refine ⟨⟨k + 1, by omega, by go_num, HF⟩, by simp [intOf]; omega⟩
        · have ham : am = 0 := HAO.out (.inr hA2)
          subst hK
          have hdr : dr = am := by rw [HDR.out, if_pos (by omega)]
          have hcr : cr = 0 := by rw [HCRR.out, if_neg (by omega)]
          have HE1 : Hid (debS l (k + 1) = D ∧ creS l (k + 1) = C) := Lib.hid (by have h1 := HND.out; have h2 := HNC.out; omega)
          have HX : Hid (SmR l.length D C cc w (wr.setCell ⟨w.heap.size + 1, 1, none⟩ (.int .i64 D)) u4) := Lib.hid (HW.out.set1 D)
          clear ham hdr hcr HDR HCRR HAO HAI
          go_wp2_with (at_builtin; refine wpList_append_own _ rfl (.tmp 49) (.tmp 55) _ rfl (w.heap.size + 2) 9 i9 _ 1 16 Tryz.underlying22 HI.out.1 HI.out.2.1 HI.out.2.2.1 HI.out.2.2.2 rfl (by omega) _ _ _ rfl (HX.out.o.alloc _) ⟨wr.heap.size, 0, none⟩ 1 1 [.string ca] rfl rfl (World.news_of_block (cs := #[.string ca]) (t := 9) (fr := (0, 0)) (new_set wr _ _ _)) (by simp [Value.oneCell']) (by unfold maxLen; omega) (by omega) (by simp; omega) ?_; intro v9 w3 hown hgrow hnil; have HA3 := Lib.hid hown; have HG3 := Lib.hid hgrow; clear hown hgrow hnil)
          have HF := Lib.hid ((HX.out.below (bx _ _)).app ca HA3.out HG3.out)
          have HF : Hid (SmR l.length (debS l (k + 1)) (creS l (k + 1)) (cardsOf (l.take (k + 1))) w w3 v9) := Lib.hid (by rw [HE1.out.1, HE1.out.2, HCD.out]; exact HF.out)
          refine ⟨⟨k + 1, by omega, by go_num, HF⟩, by simp [intOf]; omega⟩
        · have ham : am = 0 := HAO.out (.inr hA2)
          subst hK
          have hdr : dr = 0 := by rw [HDR.out, if_neg (by omega)]
          have hcr : cr = am := by rw [HCRR.out, if_pos (by omega)]
          have HE1 : Hid (debS l (k + 1) = D ∧ creS l (k + 1) = C) := Lib.hid (by have h1 := HND.out; have h2 := HNC.out; omega)
          have HX : Hid (SmR l.length D C cc w (wr.setCell ⟨w.heap.size + 1, 2, none⟩ (.int .i64 C)) u4) := Lib.hid (HW.out.set2 C)
          clear ham hdr hcr HDR HCRR HAO HAI
          go_wp2_with (at_builtin; refine wpList_append_own _ rfl (.tmp 49) (.tmp 55) _ rfl (w.heap.size + 2) 9 i9 _ 1 16 Tryz.underlying22 HI.out.1 HI.out.2.1 HI.out.2.2.1 HI.out.2.2.2 rfl (by omega) _ _ _ rfl (HX.out.o.alloc _) ⟨wr.heap.size, 0, none⟩ 1 1 [.string ca] rfl rfl (World.news_of_block (cs := #[.string ca]) (t := 9) (fr := (0, 0)) (new_set wr _ _ _)) (by simp [Value.oneCell']) (by unfold maxLen; omega) (by omega) (by simp; omega) ?_; intro v9 w3 hown hgrow hnil; have HA3 := Lib.hid hown; have HG3 := Lib.hid hgrow; clear hown hgrow hnil)
          have HF := Lib.hid ((HX.out.below (bx _ _)).app ca HA3.out HG3.out)
          have HF : Hid (SmR l.length (debS l (k + 1)) (creS l (k + 1)) (cardsOf (l.take (k + 1))) w w3 v9) := Lib.hid (by rw [HE1.out.1, HE1.out.2, HCD.out]; exact HF.out)
          refine ⟨⟨k + 1, by omega, by go_num, HF⟩, by simp [intOf]; omega⟩
        · have ham : am = 0 := HAO.out (.inr hA2)
          subst hK
          have hdr : dr = 0 := by rw [HDR.out, if_neg (by omega)]
          have hcr : cr = am := by rw [HCRR.out, if_pos (by omega)]
          have HE1 : Hid (debS l (k + 1) = D ∧ creS l (k + 1) = C) := Lib.hid (by have h1 := HND.out; have h2 := HNC.out; omega)
          have HX : Hid (SmR l.length D C cc w (wr.setCell ⟨w.heap.size + 1, 2, none⟩ (.int .i64 C)) u4) := Lib.hid (HW.out.set2 C)
          clear ham hdr hcr HDR HCRR HAO HAI
          go_wp2_with (at_builtin; refine wpList_append_own _ rfl (.tmp 49) (.tmp 55) _ rfl (w.heap.size + 2) 9 i9 _ 1 16 Tryz.underlying22 HI.out.1 HI.out.2.1 HI.out.2.2.1 HI.out.2.2.2 rfl (by omega) _ _ _ rfl (HX.out.o.alloc _) ⟨wr.heap.size, 0, none⟩ 1 1 [.string ca] rfl rfl (World.news_of_block (cs := #[.string ca]) (t := 9) (fr := (0, 0)) (new_set wr _ _ _)) (by simp [Value.oneCell']) (by unfold maxLen; omega) (by omega) (by simp; omega) ?_; intro v9 w3 hown hgrow hnil; have HA3 := Lib.hid hown; have HG3 := Lib.hid hgrow; clear hown hgrow hnil)
          have HF := Lib.hid ((HX.out.below (bx _ _)).app ca HA3.out HG3.out)
          have HF : Hid (SmR l.length (debS l (k + 1)) (creS l (k + 1)) (cardsOf (l.take (k + 1))) w w3 v9) := Lib.hid (by rw [HE1.out.1, HE1.out.2, HCD.out]; exact HF.out)
          refine ⟨⟨k + 1, by omega, by go_num, HF⟩, by simp [intOf]; omega⟩
        · have ham : am = 0 := HAO.out (.inr hA2)
          obtain ⟨n1, n2, n3, n4⟩ := hK
          have hdr : dr = 0 := by rw [HDR.out, if_neg (by omega)]
          have hcr : cr = 0 := by rw [HCRR.out, if_neg (by omega)]
          have HE1 : Hid (debS l (k + 1) = D ∧ creS l (k + 1) = C) := Lib.hid (by have h1 := HND.out; have h2 := HNC.out; omega)
          have HX : Hid (SmR l.length D C cc w wr u4) := Lib.hid (HW.out)
          clear ham hdr hcr HDR HCRR HAO HAI
          go_wp2_with (at_builtin; refine wpList_append_own _ rfl (.tmp 49) (.tmp 55) _ rfl (w.heap.size + 2) 9 i9 _ 1 16 Tryz.underlying22 HI.out.1 HI.out.2.1 HI.out.2.2.1 HI.out.2.2.2 rfl (by omega) _ _ _ rfl (HX.out.o.alloc _) ⟨wr.heap.size, 0, none⟩ 1 1 [.string ca] rfl rfl (World.news_of_block (cs := #[.string ca]) (t := 9) (fr := (0, 0)) (heap_alloc_new wr _)) (by simp [Value.oneCell']) (by unfold maxLen; omega) (by omega) (by simp; omega) ?_; intro v9 w3 hown hgrow hnil; have HA3 := Lib.hid hown; have HG3 := Lib.hid hgrow; clear hown hgrow hnil)
          have HF := Lib.hid ((HX.out.below (bx _ _)).app ca HA3.out HG3.out)
          have HF : Hid (SmR l.length (debS l (k + 1)) (creS l (k + 1)) (cardsOf (l.take (k + 1))) w w3 v9) := Lib.hid (by rw [HE1.out.1, HE1.out.2, HCD.out]; exact HF.out)
          refine ⟨⟨k + 1, by omega, by go_num, HF⟩, by simp [intOf]; omega⟩
      · rcases hK with hK | hK | hK | hK | hK
        · have ham : am = a := HAI.out hA hA2
          subst hK
          have hdr : dr = am := by rw [HDR.out, if_pos (by omega)]
          have hcr : cr = 0 := by rw [HCRR.out, if_neg (by omega)]
          have HE1 : Hid (debS l (k + 1) = (D + a) ∧ creS l (k + 1) = C) := Lib.hid (by have h1 := HND.out; have h2 := HNC.out; omega)
          have HX : Hid (SmR l.length (D + a) C cc w (wr.setCell ⟨w.heap.size + 1, 1, none⟩ (.int .i64 (D + a))) u4) := Lib.hid (HW.out.set1 (D + a))
          clear ham hdr hcr HDR HCRR HAO HAI
          go_wp2_with (at_builtin; refine wpList_append_own _ rfl (.tmp 49) (.tmp 55) _ rfl (w.heap.size + 2) 9 i9 _ 1 16 Tryz.underlying22 HI.out.1 HI.out.2.1 HI.out.2.2.1 HI.out.2.2.2 rfl (by omega) _ _ _ rfl (HX.out.o.alloc _) ⟨wr.heap.size, 0, none⟩ 1 1 [.string ca] rfl rfl (World.news_of_block (cs := #[.string ca]) (t := 9) (fr := (0, 0)) (new_set wr _ _ _)) (by simp [Value.oneCell']) (by unfold maxLen; omega) (by omega) (by simp; omega) ?_; intro v9 w3 hown hgrow hnil; have HA3 := Lib.hid hown; have HG3 := Lib.hid hgrow; clear hown hgrow hnil)
          have HF := Lib.hid ((HX.out.below (bx _ _)).app ca HA3.out HG3.out)
          have HF : Hid (SmR l.length (debS l (k + 1)) (creS l (k + 1)) (cardsOf (l.take (k + 1))) w w3 v9) := Lib.hid (by rw [HE1.out.1, HE1.out.2, HCD.out]; exact HF.out)
          refine ⟨⟨k + 1, by omega, by go_num, HF⟩, by simp [intOf]; omega⟩
        · have ham : am = a := HAI.out hA hA2
          subst hK
          have hdr : dr = am := by rw [HDR.out, if_pos (by omega)]
          have hcr : cr = 0 := by rw [HCRR.out, if_neg (by omega)]
          have HE1 : Hid (debS l (k + 1) = (D + a) ∧ creS l (k + 1) = C) := Lib.hid (by have h1 := HND.out; have h2 := HNC.out; omega)
          have HX : Hid (SmR l.length (D + a) C cc w (wr.setCell ⟨w.heap.size + 1, 1, none⟩ (.int .i64 (D + a))) u4) := Lib.hid (HW.out.set1 (D + a))
          clear ham hdr hcr HDR HCRR HAO HAI
          go_wp2_with (at_builtin; refine wpList_append_own _ rfl (.tmp 49) (.tmp 55) _ rfl (w.heap.size + 2) 9 i9 _ 1 16 Tryz.underlying22 HI.out.1 HI.out.2.1 HI.out.2.2.1 HI.out.2.2.2 rfl (by omega) _ _ _ rfl (HX.out.o.alloc _) ⟨wr.heap.size, 0, none⟩ 1 1 [.string ca] rfl rfl (World.news_of_block (cs := #[.string ca]) (t := 9) (fr := (0, 0)) (new_set wr _ _ _)) (by simp [Value.oneCell']) (by unfold maxLen; omega) (by omega) (by simp; omega) ?_; intro v9 w3 hown hgrow hnil; have HA3 := Lib.hid hown; have HG3 := Lib.hid hgrow; clear hown hgrow hnil)
          have HF := Lib.hid ((HX.out.below (bx _ _)).app ca HA3.out HG3.out)
          have HF : Hid (SmR l.length (debS l (k + 1)) (creS l (k + 1)) (cardsOf (l.take (k + 1))) w w3 v9) := Lib.hid (by rw [HE1.out.1, HE1.out.2, HCD.out]; exact HF.out)
          refine ⟨⟨k + 1, by omega, by go_num, HF⟩, by simp [intOf]; omega⟩
        · have ham : am = a := HAI.out hA hA2
          subst hK
          have hdr : dr = 0 := by rw [HDR.out, if_neg (by omega)]
          have hcr : cr = am := by rw [HCRR.out, if_pos (by omega)]
          have HE1 : Hid (debS l (k + 1) = D ∧ creS l (k + 1) = (C + a)) := Lib.hid (by have h1 := HND.out; have h2 := HNC.out; omega)
          have HX : Hid (SmR l.length D (C + a) cc w (wr.setCell ⟨w.heap.size + 1, 2, none⟩ (.int .i64 (C + a))) u4) := Lib.hid (HW.out.set2 (C + a))
          clear ham hdr hcr HDR HCRR HAO HAI
          go_wp2_with (at_builtin; refine wpList_append_own _ rfl (.tmp 49) (.tmp 55) _ rfl (w.heap.size + 2) 9 i9 _ 1 16 Tryz.underlying22 HI.out.1 HI.out.2.1 HI.out.2.2.1 HI.out.2.2.2 rfl (by omega) _ _ _ rfl (HX.out.o.alloc _) ⟨wr.heap.size, 0, none⟩ 1 1 [.string ca] rfl rfl (World.news_of_block (cs := #[.string ca]) (t := 9) (fr := (0, 0)) (new_set wr _ _ _)) (by simp [Value.oneCell']) (by unfold maxLen; omega) (by omega) (by simp; omega) ?_; intro v9 w3 hown hgrow hnil; have HA3 := Lib.hid hown; have HG3 := Lib.hid hgrow; clear hown hgrow hnil)
          have HF := Lib.hid ((HX.out.below (bx _ _)).app ca HA3.out HG3.out)
          have HF : Hid (SmR l.length (debS l (k + 1)) (creS l (k + 1)) (cardsOf (l.take (k + 1))) w w3 v9) := Lib.hid (by rw [HE1.out.1, HE1.out.2, HCD.out]; exact HF.out)
          refine ⟨⟨k + 1, by omega, by go_num, HF⟩, by simp [intOf]; omega⟩
        · have ham : am = a := HAI.out hA hA2
          subst hK
          have hdr : dr = 0 := by rw [HDR.out, if_neg (by omega)]
          have hcr : cr = am := by rw [HCRR.out, if_pos (by omega)]
          have HE1 : Hid (debS l (k + 1) = D ∧ creS l (k + 1) = (C + a)) := Lib.hid (by have h1 := HND.out; have h2 := HNC.out; omega)
          have HX : Hid (SmR l.length D (C + a) cc w (wr.setCell ⟨w.heap.size + 1, 2, none⟩ (.int .i64 (C + a))) u4) := Lib.hid (HW.out.set2 (C + a))
          clear ham hdr hcr HDR HCRR HAO HAI
          go_wp2_with (at_builtin; refine wpList_append_own _ rfl (.tmp 49) (.tmp 55) _ rfl (w.heap.size + 2) 9 i9 _ 1 16 Tryz.underlying22 HI.out.1 HI.out.2.1 HI.out.2.2.1 HI.out.2.2.2 rfl (by omega) _ _ _ rfl (HX.out.o.alloc _) ⟨wr.heap.size, 0, none⟩ 1 1 [.string ca] rfl rfl (World.news_of_block (cs := #[.string ca]) (t := 9) (fr := (0, 0)) (new_set wr _ _ _)) (by simp [Value.oneCell']) (by unfold maxLen; omega) (by omega) (by simp; omega) ?_; intro v9 w3 hown hgrow hnil; have HA3 := Lib.hid hown; have HG3 := Lib.hid hgrow; clear hown hgrow hnil)
          have HF := Lib.hid ((HX.out.below (bx _ _)).app ca HA3.out HG3.out)
          have HF : Hid (SmR l.length (debS l (k + 1)) (creS l (k + 1)) (cardsOf (l.take (k + 1))) w w3 v9) := Lib.hid (by rw [HE1.out.1, HE1.out.2, HCD.out]; exact HF.out)
          refine ⟨⟨k + 1, by omega, by go_num, HF⟩, by simp [intOf]; omega⟩
        · have ham : am = a := HAI.out hA hA2
          obtain ⟨n1, n2, n3, n4⟩ := hK
          have hdr : dr = 0 := by rw [HDR.out, if_neg (by omega)]
          have hcr : cr = 0 := by rw [HCRR.out, if_neg (by omega)]
          have HE1 : Hid (debS l (k + 1) = D ∧ creS l (k + 1) = C) := Lib.hid (by have h1 := HND.out; have h2 := HNC.out; omega)
          have HX : Hid (SmR l.length D C cc w wr u4) := Lib.hid (HW.out)
          clear ham hdr hcr HDR HCRR HAO HAI
          go_wp2_with (at_builtin; refine wpList_append_own _ rfl (.tmp 49) (.tmp 55) _ rfl (w.heap.size + 2) 9 i9 _ 1 16 Tryz.underlying22 HI.out.1 HI.out.2.1 HI.out.2.2.1 HI.out.2.2.2 rfl (by omega) _ _ _ rfl (HX.out.o.alloc _) ⟨wr.heap.size, 0, none⟩ 1 1 [.string ca] rfl rfl (World.news_of_block (cs := #[.string ca]) (t := 9) (fr := (0, 0)) (heap_alloc_new wr _)) (by simp [Value.oneCell']) (by unfold maxLen; omega) (by omega) (by simp; omega) ?_; intro v9 w3 hown hgrow hnil; have HA3 := Lib.hid hown; have HG3 := Lib.hid hgrow; clear hown hgrow hnil)
          have HF := Lib.hid ((HX.out.below (bx _ _)).app ca HA3.out HG3.out)
          have HF : Hid (SmR l.length (debS l (k + 1)) (creS l (k + 1)) (cardsOf (l.take (k + 1))) w w3 v9) := Lib.hid (by rw [HE1.out.1, HE1.out.2, HCD.out]; exact HF.out)
          refine ⟨⟨k + 1, by omega, by go_num, HF⟩, by simp [intOf]; omega⟩
    · obtain rfl : k = l.length := by omega
      have kI : ¬ (l.length : Int) < (l.length : Int) := by omega
      obtain ⟨A2, c2, rfl, hrow, hcc⟩ := own_form HW.out.o
      have hfull : cardsOf (l.take l.length) = cardsOf l := by rw [List.take_length]
      rw [hfull] at hrow
      have HT := Lib.hid (C7.rtotal_any A2 c2 (cardsOf l) wr (by unfold maxLen cardsOf; rw [List.length_map]; omega) (cards_strs hrow) (fun i hi => by
        unfold cardsOf at hi ⊢
        rw [List.length_map] at hi
        rw [List.getD_eq_getElem?_getD, List.getElem?_map, List.getElem?_eq_getElem hi]
        exact (HOK.out _ (List.getElem_mem hi)).2.2.2.2.2.1))
      have t3 := cell_c HW.out.t 3
      have p3 := cell_f HW.out.t 3
      simp at t3
      have hwl : w.heap.size + 1 < wr.heap.size := (Array.getElem?_eq_some_iff.1 HW.out.t).1
      clear hrow hcc hfull
      go_wp2_with fail
      refine HT.out.mono ?_
      rintro e w' ⟨rfl, rfl⟩
      have HZ3 := Lib.hid (HW.out.set3 (C7.totB (cardsOf l)))
      have HEE := Lib.hid (HW.out.end (C7.totB (cardsOf l)) #[.int .i64 l.length, .int .i64 (debS l l.length), .int .i64 (creS l l.length), .int .i64 (C7.totB (cardsOf l))])
      clear HT HW
      generalize h1 : debS l l.length = DD at *
      generalize h2 : creS l l.length = CC at *
      generalize h3 : C7.totB (cardsOf l) = TT at *
      have H1 := Lib.hid h1
      have H2 := Lib.hid h2
      have H3 := Lib.hid h3
      clear h1 h2 h3
      go_wp2_with (first | (refine wpList_load_row rfl 48 _ rfl (w.heap.size + 1) rfl 48 _ _ _ HZ3.out.2 Tryz.underlying48 rfl (info48 _ _ _ _) ?_) | (refine wpList_store_row rfl 48 _ _ rfl w.heap.size #[.int .i64 l.length, .int .i64 DD, .int .i64 CC, .int .i64 TT] rfl rfl 48 _ HZ3.out.1 (info48 _ _ _ _) rfl (by simp [Value.oneCell']) ?_))
      refine bodyPost_ret (results_row1 (show Tryz.f46.results = #[.cell 2 48] by kernel_rfl) _ _ w.heap.size 48 #[.int .i64 l.length, .int .i64 DD, .int .i64 CC, .int .i64 TT] (0, 0) _ rfl HEE.out.1 Tryz.underlying48 rfl (info48 _ _ _ _)) rfl ?_
      exact ⟨by rw [H1.out, H2.out, H3.out]; rfl, HEE.out.2⟩
end Go.Proofs.YthflmdgfenojcaaGreatDoor
namespace Go.Proofs.YthflmdgfenojcaaGreatDoor
set_option linter.unusedVariables false
open Go.RowKit Go.Sort
theorem hasB_no {l : List Rec} {x : ByteArray} (h : ∀ j, j < l.length → (rcAt l j).id ≠ x) : ¬ x ∈ idsOf l := by
  unfold idsOf
  intro hx
  obtain ⟨r, hr, he⟩ := List.mem_map.1 hx
  obtain ⟨j, hj, rfl⟩ := List.getElem_of_mem hr
  exact h j hj (by rw [rcAt_get l j hj]; exact he)
theorem hasB_yes {l : List Rec} {x : ByteArray} {j : Nat} (hj : j < l.length) (h : (rcAt l j).id = x) : x ∈ idsOf l := by
  unfold idsOf
  rw [← h, rcAt_get l j hj]
  exact List.mem_map.2 ⟨l[j], List.getElem_mem hj, rfl⟩
set_option maxRecDepth 100000 in
set_option maxHeartbeats 3200000 in
theorem has_any (A : Option Addr) (cp : Nat) (l : List Rec) (x : ByteArray) (w : World) (hr : IsRow w A (l.flatMap recF)) (hm : l.length ≤ 1000000) : Calls Tryz.prog 103 #[.slice A l.length cp, .string x] w fun e w' => e = .returned (.bool (decide (x ∈ idsOf l))) ∧ w = w' := by
  have HR := Lib.hid hr
  have HN := Lib.hid (hasB_no (l := l) (x := x))
  have HY := Lib.hid (fun j hj h => hasB_yes (l := l) (x := x) (j := j) hj h)
  clear hr
  go_enter Tryz.func103, Tryz.ntmps103
  go_wp2_with fail
  go_loop [5] (fun i => ∃ k : Nat, k ≤ l.length ∧ i = .int .i64 k ∧ Hid (∀ j, j < k → (rcAt l j).id ≠ x)) (fun i => l.length - (intOf i).toNat)
  case atStart => exact ⟨0, Nat.zero_le _, rfl, Lib.hid (fun j hj => absurd hj (Nat.not_lt_zero _))⟩
  case round =>
    obtain ⟨k, hk, rfl, HW⟩ := hrel
    by_cases hlt : k < l.length
    · rcases row_rc HR.out k hlt with ⟨b, off, rfl, hcell⟩
      have c1 := (hcell k hlt).c1
      have kI : (k : Int) < (l.length : Int) := by omega
      have k0 : (0 : Int) ≤ (k : Int) := by omega
      clear hcell
      by_cases hx : (rcAt l k).id = x
      · have hd := Lib.hid (decide_eq_true (HY.out k hlt hx))
        obtain ⟨q, -⟩ := str_eq hx
        generalize (rcAt l k).id = y at *
        clear hx
        go_wp2_with fail
        go_ret
        exact ⟨by rw [hd.out]; rfl, rfl⟩
      · obtain ⟨q, n⟩ := str_ne hx
        have HW2 : Hid (∀ j, j < k + 1 → (rcAt l j).id ≠ x) := Lib.hid (fun j hj => by
          rcases Nat.lt_or_ge j k with c | c
          · exact HW.out j c
          · obtain rfl : j = k := by omega
            exact hx)
        generalize (rcAt l k).id = y at *
        clear hx
        go_wp2_with fail
        exact ⟨⟨k + 1, by omega, by go_num, HW2⟩, by simp [intOf]; omega⟩
    · obtain rfl : k = l.length := by omega
      have hd := Lib.hid (decide_eq_false (HN.out HW.out))
      have kI : ¬ (l.length : Int) < (l.length : Int) := by omega
      go_wp2_with fail
      go_ret
      exact ⟨by rw [hd.out]; rfl, rfl⟩
set_option maxHeartbeats 1600000 in
theorem rnumb_any (n : Int) (w : World) (ht : TabW w) (h0 : -9223372036854775808 ≤ n) (h1 : n ≤ 9223372036854775807) : Calls Tryz.prog 99 #[.int .i64 n] w fun e w' => e = .returned (.string (itoS n)) ∧ Below w.heap.size w w' := by
  have HF := Lib.hid (fint_any n w ht h0 h1)
  clear ht h0 h1
  go_enter Tryz.func99, Tryz.ntmps99
  go_wp2_with fail
  refine HF.out.mono ?_
  rintro e w' ⟨rfl, hb⟩
  have HB := Lib.hid hb
  clear hb
  go_wp2_with fail
  go_ret
  exact ⟨rfl, HB.out⟩
set_option maxHeartbeats 3200000 in
theorem rid17_any (s : ByteArray) (w : World) (hs : s.size ≤ maxLen) : Calls Tryz.prog 127 #[.string s] w fun e w' => e = .returned (.bool (idB s)) ∧ w = w' := by
  have hno := Lib.hid (idB_no s)
  have hsz := Lib.hid (idB_size s)
  have hyes := Lib.hid (idB_yes s)
  unfold maxLen at hs
  go_enter Tryz.func127, Tryz.ntmps127
  go_wp2_with fail
  go_loop [3] (fun i => ∃ k : Nat, k ≤ s.size ∧ i = .int .i64 k ∧ Hid (∀ j, j < k → (h' : j < s.size) → idnB (s[j]).toNat = true)) (fun i => s.size - (intOf i).toNat)
  case atStart => exact ⟨0, by omega, rfl, Lib.hid (fun j h _ => by omega)⟩
  case round =>
    obtain ⟨k, hk, rfl, hall⟩ := hrel
    by_cases hlt : k < s.size
    · have hstep := Lib.hid (fun (hw : idnB (s[k]).toNat = true) j (h : j < k + 1) (h' : j < s.size) => show idnB (s[j]).toNat = true from by
        rcases Nat.lt_or_ge j k with c | c
        · exact hall.out j c h'
        · obtain rfl : j = k := by omega
          exact hw)
      have hN := Lib.hid (fun h => hno.out k hlt h)
      have hI := Lib.hid (idnB_iff (s[k]).toNat)
      go_wp2_with fail
      all_goals first
        | (refine ⟨⟨k + 1, by omega, by go_num, Lib.hid (hstep.out (hI.out.2 (by simp at *; omega)))⟩, by simp [intOf]; omega⟩)
        | (go_ret
           refine ⟨?_, rfl⟩
           rw [hN.out (by cases hc : idnB (s[k]).toNat; rfl; exfalso; have := hI.out.1 hc; simp at *; omega)]; try rfl)
    · obtain rfl : k = s.size := by omega
      have hA := Lib.hid (fun j (h : j < s.size) => hall.out j h h)
      have hc : (¬ 1 ≤ s.size) ∨ (1 ≤ s.size ∧ ¬ s.size ≤ 16) ∨ (1 ≤ s.size ∧ s.size ≤ 16) := by omega
      rcases hc with q | ⟨q, q'⟩ | ⟨q, q'⟩
      · have hF := Lib.hid (hsz.out (fun h => q h.1))
        have he : s = ⟨#[]⟩ := ByteArray.ext (Array.eq_empty_of_size_eq_zero (show s.data.size = 0 by have : s.data.size = s.size := rfl; omega))
        have d1 : s.toList.isEmpty = true := by rw [he, ByteArray.toList_eq]; rfl
        have d2 : (s.toList == []) = true := by rw [he, ByteArray.toList_eq]; rfl
        clear he
        go_wp2_with fail
        go_ret
        exact ⟨by rw [hF.out]; rfl, rfl⟩
      · have hF := Lib.hid (hsz.out (fun h => q' h.2))
        obtain ⟨d1, d3⟩ := lit_ne s [] (fun e => by rw [e] at q; exact absurd q (by decide))
        have d4 : s.toList.isEmpty = false := by simpa using d3
        have d2 : decide ((s.size : Int) ≤ 16) = false := decide_eq_false (by omega)
        go_wp2_with fail
        go_ret
        exact ⟨by rw [hF.out]; rfl, rfl⟩
      · have hF := Lib.hid (hyes.out q q' (fun j h => hA.out j h))
        obtain ⟨d1, d3⟩ := lit_ne s [] (fun e => by rw [e] at q; exact absurd q (by decide))
        have d4 : s.toList.isEmpty = false := by simpa using d3
        have d2 : decide ((s.size : Int) ≤ 16) = true := decide_eq_true (by omega)
        go_wp2_with fail
        go_ret
        exact ⟨by rw [hF.out]; rfl, rfl⟩
set_option maxHeartbeats 3200000 in
theorem rhead_any (id sd : ByteArray) (dt : Int) (w : World) (h1 : id.size ≤ maxLen) (h2 : sd.size ≤ maxLen) : Calls Tryz.prog 74 #[.string id, .string sd, .int .i64 dt] w fun e w' => e = .returned (.int .i64 (headE id sd dt)) ∧ w = w' := by
  have HI := Lib.hid (fun W => rid17_any id W h1)
  have HN := Lib.hid (fun W => rname_any sd W h2)
  have H5 := Lib.hid (fun h => headE_5 (id := id) (sd := sd) (dt := dt) h)
  have H14 := Lib.hid (fun h h2 h3 => headE_14 (id := id) (sd := sd) (dt := dt) h h2 h3)
  have H0 := Lib.hid (fun h h2 h3 => headE_0 (id := id) (sd := sd) (dt := dt) h h2 h3)
  clear h1 h2
  generalize headE id sd dt = E at *
  cases qi : idB id with
  | false =>
    have he := Lib.hid (H5.out (fun h => by rw [qi] at h; exact absurd h.1 (by decide)))
    rw [qi] at HI
    clear H5 H14 H0
    go_enter Tryz.func74, Tryz.ntmps74
    go_wp2_with fail
    refine (HI.out _).mono ?_
    rintro e w1 ⟨rfl, rfl⟩
    go_wp2_with fail
    go_ret
    exact ⟨by rw [he.out]; rfl, rfl⟩
  | true =>
  cases qn : nameB sd.data.toList with
  | false =>
    have he := Lib.hid (H5.out (fun h => by rw [qn] at h; exact absurd h.2 (by decide)))
    rw [qi] at HI
    rw [qn] at HN
    clear H5 H14 H0
    go_enter Tryz.func74, Tryz.ntmps74
    go_wp2_with fail
    refine (HI.out _).mono ?_
    rintro e w1 ⟨rfl, rfl⟩
    go_wp2_with fail
    refine (HN.out _).mono ?_
    rintro e w1 ⟨rfl, rfl⟩
    go_wp2_with fail
    go_ret
    exact ⟨by rw [he.out]; rfl, rfl⟩
  | true =>
  have hd : dt < 0 ∨ (¬ dt < 0 ∧ 99999 < dt) ∨ (¬ dt < 0 ∧ ¬ 99999 < dt) := by omega
  have H14 := Lib.hid (H14.out qi qn)
  have H0 := Lib.hid (H0.out qi qn)
  rw [qi] at HI
  rw [qn] at HN
  clear H5 qi qn
  rcases hd with q | ⟨q, q'⟩ | ⟨q, q'⟩
  iterate 2
    · have he := Lib.hid (H14.out (by omega))
      clear H14 H0
      go_enter Tryz.func74, Tryz.ntmps74
      go_wp2_with fail
      refine (HI.out _).mono ?_
      rintro e w1 ⟨rfl, rfl⟩
      go_wp2_with fail
      refine (HN.out _).mono ?_
      rintro e w1 ⟨rfl, rfl⟩
      go_wp2_with fail
      go_ret
      exact ⟨by rw [he.out]; rfl, rfl⟩
  · have he := Lib.hid (H0.out (by omega))
    clear H14 H0
    go_enter Tryz.func74, Tryz.ntmps74
    go_wp2_with fail
    refine (HI.out _).mono ?_
    rintro e w1 ⟨rfl, rfl⟩
    go_wp2_with fail
    refine (HN.out _).mono ?_
    rintro e w1 ⟨rfl, rfl⟩
    go_wp2_with fail
    go_ret
    exact ⟨by rw [he.out]; rfl, rfl⟩
end Go.Proofs.YthflmdgfenojcaaGreatDoor
namespace Go.Proofs.YthflmdgfenojcaaGreatDoor
set_option linter.unusedVariables false
open Go.RowKit Go.Sort
theorem isrow_take {w : World} {A : Option Addr} {l : List Rec} (h : IsRow w A (l.flatMap recF)) (k : Nat) (hk : k ≤ l.length) : IsRow w A ((l.take k).flatMap recF) := by
  have e : l.flatMap recF = (l.take k).flatMap recF ++ (l.drop k).flatMap recF := by rw [← List.flatMap_append, List.take_append_drop]
  rcases h with h | ⟨b, off, rfl, h⟩
  · left
    rw [e, List.length_append] at h
    omega
  · refine .inr ⟨b, off, rfl, fun j v hj => h j v ?_⟩
    rw [e, List.getElem?_append_left (List.getElem?_eq_some_iff.1 hj).1]
    exact hj
/-- The state of the loop behind k records: the boxed file. -/
structure RkS (b : Bat) (A : Option Addr) (cp k : Nat) (w W : World) : Prop where
  t : W.heap[w.heap.size]? = some (.cells #[.string b.id, .string b.sd, .int .i64 b.dt, .slice A b.rs.length cp] 61)
  be : Below w.heap.size w W
  z : ∀ j, j < k → ptL b.sd b.rs j = 0
theorem RkS.below {b : Bat} {A : Option Addr} {cp k : Nat} {w W W' : World} (h : RkS b A cp k w W) (hb : Below W.heap.size W W') : RkS b A cp k w W' :=
  ⟨blk_later h.t hb, h.be.trans (hb.mono h.be.size), h.z⟩
theorem RkS.next {b : Bat} {A : Option Addr} {cp k : Nat} {w W : World} (h : RkS b A cp k w W) (hz : ptL b.sd b.rs k = 0) : RkS b A cp (k + 1) w W :=
  ⟨h.t, h.be, fun j hj => by
    rcases Nat.lt_or_ge j k with c | c
    · exact h.z j c
    · obtain rfl : j = k := by omega
      exact hz⟩
set_option maxRecDepth 1000000 in
set_option maxHeartbeats 12800000 in
theorem rcheck_any (A : Option Addr) (cp : Nat) (b : Bat) (w : World) (hr : IsRow w A (b.rs.flatMap recF)) (hok : BatOk b) (hc : b.rs.length ≤ cp) (hm : b.rs.length ≤ 100000) : Calls Tryz.prog 48 #[batV b A cp] w (PtPost (chkB b) w) := by
  have HR := Lib.hid hr
  have HOK := Lib.hid hok.r
  have HHD := Lib.hid (fun W => rhead_any b.id b.sd b.dt W hok.i hok.s)
  have HH := Lib.hid (fun (h : headE b.id b.sd b.dt ≠ 0) => chkB_head (b := b) rfl h)
  have H3 := Lib.hid (chkB_3 (b := b))
  have HA := Lib.hid (fun h h2 k hk h3 h4 => chkB_at (b := b) h h2 k hk h3 h4)
  have HZ := Lib.hid (chkB_ok (b := b))
  have HS0 : Hid (RkS b A cp 0 w (w.alloc (.cells #[.string b.id, .string b.sd, .int .i64 b.dt, .slice A b.rs.length cp] 61))) := Lib.hid ⟨heap_alloc_new _ _, bx _ _, fun j hj => absurd hj (Nat.not_lt_zero _)⟩
  clear hr hok
  unfold PtPost
  generalize chkB b = CB at *
  generalize headE b.id b.sd b.dt = HE at *
  obtain ⟨id, sd, dt, rs⟩ := b
  unfold batV
  dsimp only at *
  by_cases h0 : HE = 0
  case neg =>
    have he := Lib.hid (HH.out h0)
    have heb : (HE != 0) = true := by simpa using h0
    have HB := Lib.hid (bx w (.cells #[.string id, .string sd, .int .i64 dt, .slice A rs.length cp] 61))
    clear HH H3 HA HZ HS0 h0
    go_enter Tryz.func48, Tryz.ntmps48
    go_wp2_with fail
    refine (HHD.out _).mono ?_
    rintro e w1 ⟨rfl, rfl⟩
    go_wp2_with fail
    go_ret
    exact ⟨by rw [he.out]; rfl, HB.out⟩
  case pos =>
  subst h0
  have hl : 200 < rs.length ∨ rs.length ≤ 200 := by omega
  rcases hl with q2 | q2
  · have he := Lib.hid (H3.out rfl q2)
    have q3 : (200 : Int) < (rs.length : Int) := by omega
    have HB := Lib.hid (bx w (.cells #[.string id, .string sd, .int .i64 dt, .slice A rs.length cp] 61))
    clear HH H3 HA HZ HS0
    go_enter Tryz.func48, Tryz.ntmps48
    go_wp2_with fail
    refine (HHD.out _).mono ?_
    rintro e w1 ⟨rfl, rfl⟩
    go_wp2_with fail
    go_ret
    exact ⟨by rw [he.out]; rfl, HB.out⟩
  · have q3 : ¬ (200 : Int) < (rs.length : Int) := by omega
    have HA1 := Lib.hid (HA.out rfl q2)
    have HZ1 := Lib.hid (HZ.out rfl q2)
    clear HH H3 HA HZ
    go_enter Tryz.func48, Tryz.ntmps48
    go_wp2_with fail
    refine (HHD.out _).mono ?_
    rintro e w1 ⟨rfl, rfl⟩
    go_wp2_with fail
    go_loopw [4] (fun i wr => ∃ k : Nat, k ≤ rs.length ∧ i = .int .i64 k ∧ Hid (RkS ⟨id, sd, dt, rs⟩ A cp k w wr)) (fun i _ => rs.length - (intOf i).toNat)
    case atStart => exact ⟨0, Nat.zero_le _, rfl, HS0⟩
    case round =>
      clear HS0 HHD
      obtain ⟨k, hk, rfl, HW⟩ := hrel
      have t3 : wr.cell? ⟨w.heap.size, 3, none⟩ = some (.slice A rs.length cp) := cell_c HW.out.t 3
      by_cases hlt : k < rs.length
      · rcases row_rc HR.out k hlt with ⟨b, off, rfl, hcell⟩
        have HC := Lib.hid ((hcell k hlt).later HW.out.be)
        have HFT := Lib.hid (rcAt_fit HOK.out k hlt)
        have HP0 := Lib.hid (HA1.out k hlt HW.out.z)
        have HP1 := Lib.hid (fun h => ptL_chk (sd := sd) (rs := rs) (k := k) h)
        have HP2 := Lib.hid (fun h h2 => ptL_aq (sd := sd) (rs := rs) (k := k) h h2)
        have HP3 := Lib.hid (fun h h2 h3 => ptL_id (sd := sd) (rs := rs) (k := k) h h2 h3)
        have HP4 := Lib.hid (fun h h2 h3 => ptL_ok (sd := sd) (rs := rs) (k := k) h h2 h3)
        have hs1 : ∀ W, (Instr.slice 34 (.slice (some ⟨b, off, none⟩) rs.length cp) none (some (.int .i64 (k : Int))) none).run Tryz.prog W = .ok (.slice (some ⟨b, off, none⟩) k cp) W := fun W => by
          rw [run_slice_h W 34 _ rs.length cp Tryz.underlying34 .i64 (k : Int) (by omega) (by omega)]
          have e2 : Program.elem Tryz.prog 34 = 57 := by kernel_rfl
          have hz : ¬ cp = 0 := by omega
          rw [e2, Tryz.sizeOf57]
          simp only [Result.andThen, sliced, if_neg hz, Int.toNat_natCast]
          rfl
        have HHS : Hid (∀ x W, IsRow W (some ⟨b, off, none⟩) (rs.flatMap recF) → Calls Tryz.prog 103 #[.slice (some ⟨b, off, none⟩) k cp, .string x] W fun e w' => e = .returned (.bool (decide (x ∈ idsOf (rs.take k)))) ∧ W = w') := Lib.hid (fun x W h => by
          have := has_any (some ⟨b, off, none⟩) cp (rs.take k) x W (isrow_take h k (by omega)) (by rw [List.length_take]; omega)
          rw [List.length_take, Nat.min_eq_left (by omega)] at this
          exact this)
        have HRW := Lib.hid (HR.out.below HW.out.be)
        obtain ⟨r, hrk⟩ : ∃ r, rcAt rs k = r := ⟨_, rfl⟩
        rw [hrk] at HC HFT HP1 HP2 HP3 HP4
        have HCH := Lib.hid (fun W => rchk_any r HFT.out W)
        unfold PtPost at HCH
        obtain ⟨E, hE⟩ : ∃ E, chkE r = E := ⟨_, rfl⟩
        obtain ⟨L, hL⟩ : ∃ L, idsOf (rs.take k) = L := ⟨_, rfl⟩
        rw [hE] at HCH HP1 HP2 HP3 HP4
        rw [hL] at HP3 HP4 HHS
        clear hE hL hrk hcell HR HA1 HZ1
        obtain ⟨K, rid, au, aq, is, me, ca, a, cu, d, c, f⟩ := r
        have c0 := HC.out.c0
        have c1 := HC.out.c1
        have c2 := HC.out.c2
        have c3 := HC.out.c3
        have c4 := HC.out.c4
        have c5 := HC.out.c5
        have c6 := HC.out.c6
        have c7 := HC.out.c7
        have c8 := HC.out.c8
        have c9 := HC.out.c9
        have c10 := HC.out.c10
        have c11 := HC.out.c11
        unfold Rec.val Rec.cells at HCH
        dsimp only at *
        have kI : (k : Int) < (rs.length : Int) := by omega
        have k0 : (0 : Int) ≤ (k : Int) := by omega
        by_cases h0 : E = 0
        · subst h0
          by_cases haq : aq = sd
          · subst haq
            obtain ⟨q9, -⟩ := str_eq (rfl : aq = aq)
            by_cases hin : rid ∈ L
            · have HP := Lib.hid ((HP0.out (by rw [HP3.out rfl rfl hin]; decide)).trans (HP3.out rfl rfl hin))
              have HH1 := Lib.hid (HHS.out rid)
              rw [decide_eq_true hin] at HH1
              clear hin HP0 HP1 HP2 HP3 HP4 HHS
              go_wp2_with fail
              refine (HCH.out _).mono ?_
              rintro e w1 ⟨rfl, hb⟩
              have HW1 := Lib.hid (HW.out.below hb)
              have HR1 := Lib.hid (HRW.out.below hb)
              have t3 : w1.cell? ⟨w.heap.size, 3, none⟩ = some (.slice (some ⟨b, off, none⟩) rs.length cp) := cell_c HW1.out.t 3
              have t1 : w1.cell? ⟨w.heap.size, 1, none⟩ = some (.string aq) := cell_c HW1.out.t 1
              have D1 := Lib.hid (cell_later hb c1)
              have d3 := cell_later hb c3
              clear hb c0 c1 c2 c3 c4 c5 c6 c7 c8 c9 c10 c11
              go_wp2_with fail
              go_quiet (fail)
              go_wp2_with fail
              rename Nat => n1
              have HW2 := Lib.hid (HW1.out.below (below_drewN w1 n1))
              have HR2 := Lib.hid (HR1.out.below (below_drewN w1 n1))
              have D2 := Lib.hid (cell_later (below_drewN w1 n1) D1.out)
              clear t1 t3 d3 D1
              generalize w1.drewN n1 = w2 at *
              have t3 : w2.cell? ⟨w.heap.size, 3, none⟩ = some (.slice (some ⟨b, off, none⟩) rs.length cp) := cell_c HW2.out.t 3
              have d1 := D2.out
              go_quiet ((go_at_call 103; with_reducible exact quiet_left (HH1.out _ (HR2.out.below (below_drewN _ _)))))
              go_wp2_with fail
              rename Nat => n2
              go_ret
              exact ⟨by rw [HP.out]; rfl, dNb HW2.out.be n2⟩
            · have HP := Lib.hid (HP4.out rfl rfl hin)
              have HH1 := Lib.hid (HHS.out rid)
              rw [decide_eq_false hin] at HH1
              clear hin HP0 HP1 HP2 HP3 HP4 HHS
              go_wp2_with fail
              refine (HCH.out _).mono ?_
              rintro e w1 ⟨rfl, hb⟩
              have HW1 := Lib.hid (HW.out.below hb)
              have HR1 := Lib.hid (HRW.out.below hb)
              have t3 : w1.cell? ⟨w.heap.size, 3, none⟩ = some (.slice (some ⟨b, off, none⟩) rs.length cp) := cell_c HW1.out.t 3
              have t1 : w1.cell? ⟨w.heap.size, 1, none⟩ = some (.string aq) := cell_c HW1.out.t 1
              have D1 := Lib.hid (cell_later hb c1)
              have d3 := cell_later hb c3
              clear hb c0 c1 c2 c3 c4 c5 c6 c7 c8 c9 c10 c11
              go_wp2_with fail
              go_quiet (fail)
              go_wp2_with fail
              rename Nat => n1
              have HW2 := Lib.hid (HW1.out.below (below_drewN w1 n1))
              have HR2 := Lib.hid (HR1.out.below (below_drewN w1 n1))
              have D2 := Lib.hid (cell_later (below_drewN w1 n1) D1.out)
              clear t1 t3 d3 D1
              generalize w1.drewN n1 = w2 at *
              have t3 : w2.cell? ⟨w.heap.size, 3, none⟩ = some (.slice (some ⟨b, off, none⟩) rs.length cp) := cell_c HW2.out.t 3
              have d1 := D2.out
              go_quiet ((go_at_call 103; with_reducible exact quiet_left (HH1.out _ (HR2.out.below (below_drewN _ _)))))
              go_wp2_with fail
              rename Nat => n2
              have HW3 := Lib.hid ((HW2.out.below (below_drewN w2 n2)).next HP.out)
              go_roundw
              case rel => exact ⟨k + 1, by omega, by go_num, HW3⟩
              case measure => simp [intOf]; omega
          · obtain ⟨q9, n9⟩ := str_ne haq
            have HP := Lib.hid ((HP0.out (by rw [HP2.out rfl haq]; decide)).trans (HP2.out rfl haq))
            clear haq HP0 HP1 HP2 HP3 HP4 HHS
            go_wp2_with fail
            refine (HCH.out _).mono ?_
            rintro e w1 ⟨rfl, hb⟩
            have HW1 := Lib.hid (HW.out.below hb)
            have HR1 := Lib.hid (HRW.out.below hb)
            have t3 : w1.cell? ⟨w.heap.size, 3, none⟩ = some (.slice (some ⟨b, off, none⟩) rs.length cp) := cell_c HW1.out.t 3
            have t1 : w1.cell? ⟨w.heap.size, 1, none⟩ = some (.string sd) := cell_c HW1.out.t 1
            have D1 := Lib.hid (cell_later hb c1)
            have d3 := cell_later hb c3
            clear hb c0 c1 c2 c3 c4 c5 c6 c7 c8 c9 c10 c11
            go_wp2_with fail
            go_quiet (fail)
            go_wp2_with fail
            rename Nat => n1
            have HW2 := Lib.hid (HW1.out.below (below_drewN w1 n1))
            go_ret
            exact ⟨by rw [HP.out]; rfl, HW2.out.be⟩
        · have heb : (E != 0) = true := by simpa using h0
          have HP := Lib.hid ((HP0.out (by rw [HP1.out h0]; exact h0)).trans (HP1.out h0))
          clear h0 HP0 HP1 HP2 HP3 HP4 HHS
          go_wp2_with fail
          refine (HCH.out _).mono ?_
          rintro e w1 ⟨rfl, hb⟩
          have HW1 := Lib.hid (HW.out.below hb)
          have HR1 := Lib.hid (HRW.out.below hb)
          clear hb
          go_wp2_with fail
          go_ret
          exact ⟨by rw [HP.out]; rfl, HW1.out.be⟩
      · obtain rfl : k = rs.length := by omega
        have HP := Lib.hid (HZ1.out HW.out.z)
        have kI : ¬ (rs.length : Int) < (rs.length : Int) := by omega
        go_wp2_with fail
        go_ret
        exact ⟨by rw [HP.out]; rfl, HW.out.be⟩
end Go.Proofs.YthflmdgfenojcaaGreatDoor
namespace Go.Proofs.YthflmdgfenojcaaGreatDoor
set_option linter.unusedVariables false
open Go.RowKit
set_option maxRecDepth 1000000 in
set_option maxHeartbeats 3200000 in
theorem rdig_any (s : ByteArray) (w : World) (hw : TzW w) (hs : s.size ≤ maxLen) : Calls Tryz.prog 70 #[.string s] w (StrPost (crcS s.data.toList) w) := by
  have hlt := crcOf_lt s.data.toList
  have HC := Lib.hid (C7.rcrc_any s w hs)
  generalize hm : C7.crcOf s.data.toList = m at hlt HC
  have hf := fuint16_any m w hw (by omega)
  obtain ⟨S, hS⟩ : ∃ S : ByteArray, S = ⟨(hexDigits m).toArray⟩ := ⟨_, rfl⟩
  rw [← hS] at hf
  have hSz : S.size = (hexDigits m).length := by rw [hS]; rfl
  have hS8 : S.size ≤ 8 := by rw [hSz]; exact hex_len 8 m (by omega) (by omega)
  have hc : (8 : Int) - (S.size : Int) = ((8 - S.size : Nat) : Int) := by omega
  have hrep := fun w => Tryz.strings_Repeat ⟨#[48]⟩ (8 - S.size) w (by omega) (by rw [show (ByteArray.mk #[48]).size = 1 from rfl]; omega)
  rw [← hc] at hrep
  rw [repeat0'] at hrep
  obtain ⟨Z, hZ⟩ : ∃ Z : ByteArray, Z = ⟨(List.replicate (8 - S.size) (48 : UInt8)).toArray⟩ := ⟨_, rfl⟩
  rw [← hZ] at hrep
  have hZz : Z.size = 8 - S.size := by rw [hZ]; show (List.replicate (8 - S.size) (48 : UInt8)).toArray.size = _; simp
  have hfin := Lib.hid (show Z ++ S = crcS s.data.toList by
    refine ba_ext ?_
    rw [ByteArray.data_append, Array.toList_append, hZ, hSz, hS]
    unfold crcS
    rw [hm]
    exact text8_hex m hlt)
  have HF := Lib.hid hf
  have HR := Lib.hid hrep
  clear hrep hc hS hSz hZ hf hw hm hs
  unfold StrPost
  go_enter Tryz.func70, Tryz.ntmps70
  go_wp2_with fail
  refine HC.out.mono ?_
  rintro e w0 ⟨rfl, rfl⟩
  go_wp2_with fail
  refine HF.out.mono ?_
  rintro e w1 ⟨rfl, hb⟩
  have HB := Lib.hid hb
  clear hb
  go_wp2_with fail
  refine (HR.out _).mono ?_
  rintro e w2 ⟨rfl, hb⟩
  have HB2 := Lib.hid (HB.out.trans (hb.mono HB.out.size))
  clear hb
  go_wp2_with fail
  go_ret
  exact ⟨by rw [← hfin.out]; rfl, HB2.out⟩
set_option maxRecDepth 1000000 in
set_option maxHeartbeats 3200000 in
theorem rline_any (A cp : Nat) (ps : List ByteArray) (w : World) (hcells : ∀ (j : Nat) x, ps[j]? = some x → w.cell? ⟨A, 0 + j, none⟩ = some (.string x)) (hA : A < w.heap.size) (hc : ps.length ≤ cp) (hn : ps.length ≤ 1000) (hl : (lineL ps).length ≤ 1000000000) : Calls Tryz.prog 98 #[.slice (some ⟨A, 0, none⟩) ps.length cp] w (StrPost ⟨(lineL ps).toArray⟩ w) := by
  have hj : joinK ps ps.length = Lib.join (ps.map (·.data.toList)) [124] := by unfold joinK; rw [List.take_length]
  have hl2 : (joinK ps ps.length).length ≤ 1000000000 := by unfold lineL at hl; rw [List.length_append] at hl; omega
  have HJ := Lib.hid (Tryz.strings_Join A 0 cp ps ⟨#[124]⟩ w hcells hA (by omega) hc (by show (Lib.join (ps.map (·.data.toList)) [124]).length ≤ _; rw [← hj]; omega))
  have hfin : (ByteArray.mk (lineL ps).toArray) = (ByteArray.mk (joinK ps ps.length).toArray) ++ (ByteArray.mk #[10]) := by
    refine ba_ext ?_
    rw [ByteArray.data_append, Array.toList_append]
    unfold lineL
    rfl
  have hk : (ByteArray.mk (Lib.join (ps.map (·.data.toList)) (ByteArray.mk #[124]).data.toList).toArray) = (ByteArray.mk (joinK ps ps.length).toArray) := by rw [hj]
  rw [hk] at HJ
  obtain ⟨Z, hZ⟩ : ∃ Z : ByteArray, Z = ⟨(joinK ps ps.length).toArray⟩ := ⟨_, rfl⟩
  have hZz : Z.size ≤ 1000000000 := by rw [hZ]; exact hl2
  rw [hfin]
  rw [← hZ] at HJ ⊢
  clear hfin hk hj hl hl2 hcells hA hZ
  unfold StrPost
  go_enter Tryz.func98, Tryz.ntmps98
  go_wp2_with fail
  refine HJ.out.mono ?_
  rintro e w0 ⟨rfl, hb⟩
  go_wp2_with fail
  go_ret
  exact ⟨rfl, hb⟩
end Go.Proofs.YthflmdgfenojcaaGreatDoor
namespace Go.Proofs.YthflmdgfenojcaaGreatDoor
set_option linter.unusedVariables false
open Go.RowKit
theorem rlin (ps : List ByteArray) (cs : Array Value) (X : World) (hcs : ∀ i, i < ps.length → cs[i]? = some (.string (strAt ps i))) (hn : ps.length ≤ 10) (hsz : ∀ i, i < ps.length → (strAt ps i).size ≤ 1000000) :
    Calls Tryz.prog 98 #[.slice (some ⟨X.heap.size, 0, none⟩) ps.length ps.length] (X.alloc (.cells cs 9)) (StrPost ⟨(lineL ps).toArray⟩ X) := by
  have hlen := lineL_len ps 1000000 hsz
  refine (rline_any X.heap.size ps.length ps (X.alloc (.cells cs 9)) ?_ (by show _ < (X.heap.push _).size; simp) (Nat.le_refl _) (by omega) (by
    have h1 : ps.length * 1000001 ≤ 10 * 1000001 := Nat.mul_le_mul_right _ hn
    omega)).mono ?_
  · intro j x hj
    obtain ⟨hl, hx⟩ := List.getElem?_eq_some_iff.mp hj
    have := cell_c (heap_alloc_new X (.cells cs 9)) j
    rw [Nat.zero_add]
    refine this.trans ?_
    rw [hcs j hl]
    unfold strAt
    rw [List.getD_eq_getElem?_getD, hj]
    rfl
  · rintro e w' ⟨rfl, hb⟩
    exact ⟨rfl, (bx X _).trans (hb.mono (bx X _).size)⟩
theorem rlin2 (x y : ByteArray) (X : World) (hx : x.size ≤ 1000000) (hy : y.size ≤ 1000000) : Calls Tryz.prog 98 #[.slice (some ⟨X.heap.size, 0, none⟩) 2 2] (X.alloc (.cells #[.string x, .string y] 9)) (StrPost ⟨(lineL [x, y]).toArray⟩ X) :=
  rlin [x, y] _ X (hcs2 x y) (by simp) (hsz2 hx hy)
theorem rlin4 (x y z u : ByteArray) (X : World) (hx : x.size ≤ 1000000) (hy : y.size ≤ 1000000) (hz : z.size ≤ 1000000) (hu : u.size ≤ 1000000) : Calls Tryz.prog 98 #[.slice (some ⟨X.heap.size, 0, none⟩) 4 4] (X.alloc (.cells #[.string x, .string y, .string z, .string u] 9)) (StrPost ⟨(lineL [x, y, z, u]).toArray⟩ X) :=
  rlin [x, y, z, u] _ X (hcs4 x y z u) (by simp) (hsz4 hx hy hz hu)
theorem rlin5 (x y z u v : ByteArray) (X : World) (hx : x.size ≤ 1000000) (hy : y.size ≤ 1000000) (hz : z.size ≤ 1000000) (hu : u.size ≤ 1000000) (hv : v.size ≤ 1000000) : Calls Tryz.prog 98 #[.slice (some ⟨X.heap.size, 0, none⟩) 5 5] (X.alloc (.cells #[.string x, .string y, .string z, .string u, .string v] 9)) (StrPost ⟨(lineL [x, y, z, u, v]).toArray⟩ X) :=
  rlin [x, y, z, u, v] _ X (hcs5 x y z u v) (by simp) (hsz5 hx hy hz hu hv)
/-- The world of the trailer: the totals boxed. -/
structure TrS (n d c h : Int) (w W : World) : Prop where
  t : W.heap[w.heap.size]? = some (.cells #[.int .i64 n, .int .i64 d, .int .i64 c, .int .i64 h] 48)
  be : Below w.heap.size w W
theorem TrS.below {n d c h : Int} {w W W' : World} (k : TrS n d c h w W) (hb : Below W.heap.size W W') : TrS n d c h w W' := ⟨blk_later k.t hb, k.be.trans (hb.mono k.be.size)⟩
theorem TrS.row {n d c h : Int} {w W : World} (k : TrS n d c h w W) : W.cell? ⟨w.heap.size, 0, none⟩ = some (.int .i64 n) ∧ W.cell? ⟨w.heap.size, 1, none⟩ = some (.int .i64 d) ∧ W.cell? ⟨w.heap.size, 2, none⟩ = some (.int .i64 c) ∧ W.cell? ⟨w.heap.size, 3, none⟩ = some (.int .i64 h) :=
  ⟨cell_c k.t 0, cell_c k.t 1, cell_c k.t 2, cell_c k.t 3⟩
set_option maxRecDepth 1000000 in
set_option maxHeartbeats 6400000 in
theorem rtrl_any (n : Nat) (d c h : Int) (w : World) (hw : TabW w) (hn : n ≤ 1000000) (hd : -9223372036854775808 ≤ d ∧ d ≤ 9223372036854775807) (hc : -9223372036854775808 ≤ c ∧ c ≤ 9223372036854775807) (hh : -9223372036854775808 ≤ h ∧ h ≤ 9223372036854775807) :
    Calls Tryz.prog 71 #[totV n d c h] w (StrPost ⟨(trlL n d c h).toArray⟩ w) := by
  have HKW := Lib.hid hw
  have HZ0 := Lib.hid (show (-9223372036854775808 : Int) ≤ n ∧ (n : Int) ≤ 9223372036854775807 by omega)
  have HZ1 := Lib.hid hd
  have HZ2 := Lib.hid hc
  have HZ3 := Lib.hid hh
  have HT : Hid (trlL n d c h = lineL [⟨#[84]⟩, itoS n, itoS d, itoS c, itoS h]) := Lib.hid rfl
  have HBW0 : Hid (TrS n d c h w (w.alloc (.cells #[.int .i64 n, .int .i64 d, .int .i64 c, .int .i64 h] 48))) := Lib.hid ⟨heap_alloc_new _ _, bx _ _⟩
  clear hw hn hd hc hh
  unfold totV StrPost
  go_enter Tryz.func71, Tryz.ntmps71
  go_wp2_with fail
  obtain ⟨W, hW⟩ : ∃ W, w.alloc (.cells #[.int .i64 n, .int .i64 d, .int .i64 c, .int .i64 h] 48) = W := ⟨_, rfl⟩
  rw [hW] at HBW0 ⊢
  clear hW
  have HBW : Hid (TrS n d c h w W.drew) := Lib.hid (HBW0.out.below ((Below.refl _ _).drew))
  go_region_held3 (fun X => X.cell? ⟨w.heap.size, 0, none⟩ = some (.int .i64 n) ∧ X.cell? ⟨w.heap.size, 1, none⟩ = some (.int .i64 d) ∧ X.cell? ⟨w.heap.size, 2, none⟩ = some (.int .i64 c) ∧ X.cell? ⟨w.heap.size, 3, none⟩ = some (.int .i64 h))
    (first | exact HBW.out.row | exact (HBW.out.below (bx _ _)).row)
    (first
      | (go_at_call 99; with_reducible refine (rnumb_any n _ (HKW.out.below HBW.out.be) HZ0.out.1 HZ0.out.2).mono ?_; rintro e w' ⟨rfl, hb⟩; have HBW := Lib.hid (HBW.out.below hb); clear hb)
      | (go_at_call 99; with_reducible refine (rnumb_any d _ (HKW.out.below HBW.out.be) HZ1.out.1 HZ1.out.2).mono ?_; rintro e w' ⟨rfl, hb⟩; have HBW := Lib.hid (HBW.out.below hb); clear hb)
      | (go_at_call 99; with_reducible refine (rnumb_any c _ (HKW.out.below HBW.out.be) HZ2.out.1 HZ2.out.2).mono ?_; rintro e w' ⟨rfl, hb⟩; have HBW := Lib.hid (HBW.out.below hb); clear hb)
      | (go_at_call 99; with_reducible refine (rnumb_any h _ (HKW.out.below HBW.out.be) HZ3.out.1 HZ3.out.2).mono ?_; rintro e w' ⟨rfl, hb⟩; have HBW := Lib.hid (HBW.out.below hb); clear hb)
      | (go_at_call 98; refine (rlin5 ⟨#[84]⟩ (itoS n) (itoS d) (itoS c) (itoS h) _ (by decide) (Nat.le_trans (itoS_size _ HZ0.out) (by omega)) (Nat.le_trans (itoS_size _ HZ1.out) (by omega)) (Nat.le_trans (itoS_size _ HZ2.out) (by omega)) (Nat.le_trans (itoS_size _ HZ3.out) (by omega))).mono ?_; rintro e w' ⟨rfl, hb⟩; have HBW := Lib.hid (HBW.out.below hb); clear hb))
  go_wp2_with fail
  go_ret
  exact ⟨by rw [HT.out]; rfl, HBW.out.be⟩
end Go.Proofs.YthflmdgfenojcaaGreatDoor
namespace Go.Proofs.YthflmdgfenojcaaGreatDoor
set_option linter.unusedVariables false
open Go.RowKit
theorem tA (l m : List UInt8) : (ByteArray.mk l.toArray) ++ (ByteArray.mk m.toArray) = ⟨(l ++ m).toArray⟩ := by
  refine ba_ext ?_
  rw [ByteArray.data_append, Array.toList_append]
theorem tSz (l : List UInt8) : (ByteArray.mk l.toArray).size = l.length := rfl
/-- The boxed file. -/
structure EnR (b : Bat) (A : Option Addr) (cp : Nat) (w W : World) : Prop where
  t : W.heap[w.heap.size]? = some (.cells #[.string b.id, .string b.sd, .int .i64 b.dt, .slice A b.rs.length cp] 61)
  be : Below w.heap.size w W
theorem EnR.below {b : Bat} {A : Option Addr} {cp : Nat} {w W W' : World} (h : EnR b A cp w W) (hb : Below W.heap.size W W') : EnR b A cp w W' := ⟨blk_later h.t hb, h.be.trans (hb.mono h.be.size)⟩
theorem EnR.row {b : Bat} {A : Option Addr} {cp : Nat} {w W : World} (h : EnR b A cp w W) : W.cell? ⟨w.heap.size, 0, none⟩ = some (.string b.id) ∧ W.cell? ⟨w.heap.size, 1, none⟩ = some (.string b.sd) ∧ W.cell? ⟨w.heap.size, 2, none⟩ = some (.int .i64 b.dt) :=
  ⟨cell_c h.t 0, cell_c h.t 1, cell_c h.t 2⟩
set_option maxRecDepth 1000000 in
set_option maxHeartbeats 6400000 in
theorem rbenc_any (A : Option Addr) (cp : Nat) (b : Bat) (w : World) (hw : BW w) (hr : IsRow w A (b.rs.flatMap recF)) (hok : BatOk b) (hsz : ∀ x ∈ b.rs, szR x ≤ 500000) (hi : b.id.size ≤ 1000000) (hs : b.sd.size ≤ 1000000) (hc : b.rs.length ≤ cp) (hm : b.rs.length ≤ 100000) : Calls Tryz.prog 44 #[batV b A cp] w (BenPost b w) := by
  have HR := Lib.hid hr
  have HKW := Lib.hid hw
  have HCK := Lib.hid (fun W h => rcheck_any A cp b W h hok hc hm)
  unfold BenPost
  unfold PtPost batV at HCK
  unfold batV
  by_cases hE : chkB b = 0
  · have HE := Lib.hid hE
    obtain ⟨z1, z2, z3⟩ := chkB_zero hE
    obtain ⟨i1, i2, i3, i4⟩ := headE_zero z1
    rw [hE] at HCK ⊢
    have hrc : ∀ j, j < b.rs.length → chkE (rcAt b.rs j) = 0 ∧ (rcAt b.rs j).Fit ∧ szR (rcAt b.rs j) ≤ 1000000 ∧ (encS (rcAt b.rs j)).size ≤ 1000000 := fun j hj => by
      have h1 := (ptL_zero (z3 j hj)).1
      have h2 := hsz (rcAt b.rs j) (by rw [rcAt_get _ _ hj]; exact List.getElem_mem hj)
      have h3 := encS_size' h1
      exact ⟨h1, rcAt_fit hok.r j hj, by omega, by omega⟩
    have HRC := Lib.hid hrc
    have hln := bodyK_len hi hs (by omega) (fun j hj => (hrc j hj).2.2.2)
    have HLN : Hid (∀ k, k ≤ b.rs.length → (bodyK b k).length ≤ 1000000000) := Lib.hid (fun k hk => by have := hln k hk; omega)
    have HDT : Hid (0 ≤ b.dt ∧ b.dt ≤ 99999) := Lib.hid ⟨i3, i4⟩
    have HID := Lib.hid (And.intro hi hs)
    have HEN : Hid (encB b = ⟨(textL b).toArray⟩) := Lib.hid (by unfold encB; rw [if_pos hE])
    have HSM := Lib.hid (fun W h => rbsum_any A cp b.rs W h hok.r (Nat.le_trans hm (by omega)))
    unfold RSumPost totV at HSM
    have HDC := Lib.hid (deb_lt (b := b) z2)
    have HTB := Lib.hid (C7.totB_lt (cardsOf b.rs))
    have HB00 : Hid (bodyK b 0 = lineL [⟨#[72]⟩, b.id, b.sd, itoS b.dt]) := Lib.hid (by unfold bodyK hdrL; simp)
    have z2' : b.rs.length ≤ 200 := z2
    clear hr hw hok hsz hi hs hrc hln z1 z2 z3 i1 i2 i3 i4 hE hm
    go_enter Tryz.func44, Tryz.ntmps44
    go_wp2_with fail
    refine (HCK.out _ (HR.out.below (bx _ _))).mono ?_
    rintro e w1 ⟨rfl, hb⟩
    obtain ⟨kT, hz, hb1⟩ := box1 hb
    have HE0 : Hid (EnR b A cp w w1) := Lib.hid ⟨kT, hb1⟩
    clear kT hz hb hb1 HCK
    go_wp2_with fail
    have HBW : Hid (EnR b A cp w w1.drew) := Lib.hid (HE0.out.below ((Below.refl _ _).drew))
    go_region_held3 (fun X => X.cell? ⟨w.heap.size, 0, none⟩ = some (.string b.id) ∧ X.cell? ⟨w.heap.size, 1, none⟩ = some (.string b.sd) ∧ X.cell? ⟨w.heap.size, 2, none⟩ = some (.int .i64 b.dt))
      (first | exact HBW.out.row | exact (HBW.out.below (bx _ _)).row)
      (first
        | (go_at_call 99; refine (rnumb_any b.dt _ (HKW.out.below HBW.out.be).1.1 (by have := HDT.out; omega) (by have := HDT.out; omega)).mono ?_; rintro e w' ⟨rfl, hb⟩; have HBW := Lib.hid (HBW.out.below hb); clear hb)
        | (go_at_call 98; refine (rlin4 ⟨#[72]⟩ b.id b.sd (itoS b.dt) _ (by decide) HID.out.1 HID.out.2 (Nat.le_trans (itoS_size _ (by have := HDT.out; omega)) (by omega))).mono ?_; rintro e w' ⟨rfl, hb⟩; have HBW := Lib.hid (HBW.out.below hb); clear hb))
    have HB0 := Lib.hid HBW.out
    clear HBW HE0
    have ht3 : w'.cell? ⟨w.heap.size, 3, none⟩ = some (.slice A b.rs.length cp) := cell_c HB0.out.t 3
    go_wp2_with fail
    go_loopw [5, 6] (fun s i wr => ∃ k : Nat, k ≤ b.rs.length ∧ s = .string ⟨(bodyK b k).toArray⟩ ∧ i = .int .i64 k ∧ Hid (EnR b A cp w wr)) (fun _ i _ => b.rs.length - (intOf i).toNat)
    case atStart => exact ⟨0, Nat.zero_le _, by rw [HB00.out], rfl, HB0⟩
    case round =>
      clear HB0 ht3 HB00
      obtain ⟨k, hk, rfl, rfl, HW⟩ := hrel
      obtain ⟨X, hX⟩ : ∃ X : ByteArray, X = ⟨(bodyK b k).toArray⟩ := ⟨_, rfl⟩
      have hXz : X.size ≤ 1000000000 := by rw [hX, tSz]; exact HLN.out k hk
      have HX := Lib.hid hX
      rw [← hX]
      clear hX
      have ht3 : wr.cell? ⟨w.heap.size, 3, none⟩ = some (.slice A b.rs.length cp) := cell_c HW.out.t 3
      by_cases hlt : k < b.rs.length
      · rcases row_rc HR.out k hlt with ⟨g, off, rfl, hcell⟩
        have HC := Lib.hid ((hcell k hlt).later HW.out.be)
        obtain ⟨q1, q2, q3, q4⟩ := HRC.out k hlt
        have HENC : Hid (∀ W, Calls Tryz.prog 34 #[(rcAt b.rs k).val] W fun e w' => e = .returned (.tuple #[.string (encS (rcAt b.rs k)), .int .i64 0]) ∧ Below W.heap.size W w') := Lib.hid (fun W => by
          have := renc_any (rcAt b.rs k) q2 q3 W
          unfold EncPost at this
          unfold encV at this
          rw [q1, if_pos rfl] at this
          exact this)
        have hNX := bodyK_succ b k hlt
        have hYl := lineL_len [⟨#[82]⟩, encS (rcAt b.rs k)] 1000000 (hsz2 (by decide) q4)
        have HL := Lib.hid (fun W => rlin2 ⟨#[82]⟩ (encS (rcAt b.rs k)) W (by decide) q4)
        obtain ⟨Y, hY⟩ : ∃ Y : ByteArray, Y = ⟨(lineL [⟨#[82]⟩, encS (rcAt b.rs k)]).toArray⟩ := ⟨_, rfl⟩
        have hYz : Y.size ≤ 10000000 := by
          rw [hY, tSz]
          have e : ([⟨#[82]⟩, encS (rcAt b.rs k)] : List ByteArray).length = 2 := rfl
          rw [e] at hYl; omega
        have HNX : Hid ((ByteArray.mk (bodyK b (k + 1)).toArray) = X ++ Y) := Lib.hid (by rw [HX.out, hY, tA, hNX]; rfl)
        rw [← hY] at HL
        unfold StrPost at HL
        clear q1 q2 q3 q4 hcell hNX hYl hY
        generalize encS (rcAt b.rs k) = ES at *
        generalize rcAt b.rs k = r at *
        obtain ⟨K, rid, au, aq, is, me, ca, a, cu, d, c, f⟩ := r
        have c0 := HC.out.c0
        have c1 := HC.out.c1
        have c2 := HC.out.c2
        have c3 := HC.out.c3
        have c4 := HC.out.c4
        have c5 := HC.out.c5
        have c6 := HC.out.c6
        have c7 := HC.out.c7
        have c8 := HC.out.c8
        have c9 := HC.out.c9
        have c10 := HC.out.c10
        have c11 := HC.out.c11
        unfold Rec.val Rec.cells at HENC
        dsimp only at c0 c1 c2 c3 c4 c5 c6 c7 c8 c9 c10 c11 HENC
        have kI : (k : Int) < (b.rs.length : Int) := by omega
        have k0 : (0 : Int) ≤ (k : Int) := by omega
        go_wp2_with fail
        refine (HENC.out _).mono ?_
        rintro e w1 ⟨rfl, hb⟩
        have HW1 := Lib.hid (HW.out.below hb)
        clear hb c0 c1 c2 c3 c4 c5 c6 c7 c8 c9 c10 c11 ht3
        go_wp2_with fail
        refine (HL.out _).mono ?_
        rintro e w2 ⟨rfl, hb⟩
        have HW2 := Lib.hid (HW1.out.below hb)
        clear hb
        go_wp2_with fail
        go_roundw
        case rel => exact ⟨k + 1, by omega, by rw [HNX.out], by go_num, HW2⟩
        case measure => simp [intOf]; omega
      · obtain rfl : k = b.rs.length := by omega
        have HBD : Hid (bodyL b = bodyK b b.rs.length ++ trlL b.rs.length (debS b.rs b.rs.length) (creS b.rs b.rs.length) (C7.totB (cardsOf b.rs))) := Lib.hid rfl
        have HTX : Hid (textL b = bodyL b ++ lineL [⟨#[67]⟩, crcS (bodyL b)]) := Lib.hid rfl
        have hZ0 : (-9223372036854775808 : Int) ≤ b.rs.length ∧ (b.rs.length : Int) ≤ 9223372036854775807 := by omega
        generalize hdb : debS b.rs b.rs.length = DB at *
        generalize hcb : creS b.rs b.rs.length = CR at *
        generalize htb : C7.totB (cardsOf b.rs) = TT at *
        generalize hcr : crcS (bodyL b) = CRC at *
        clear hdb hcb htb
        have hZ1 : (-9223372036854775808 : Int) ≤ DB ∧ DB ≤ 9223372036854775807 := by have := HDC.out; omega
        have hZ2 : (-9223372036854775808 : Int) ≤ CR ∧ CR ≤ 9223372036854775807 := by have := HDC.out; omega
        have hZ3 : (-9223372036854775808 : Int) ≤ TT ∧ (TT : Int) ≤ 9223372036854775807 := by have := HTB.out; omega
        have HTR := Lib.hid (fun W h => rtrl_any b.rs.length DB CR TT W h (by omega) hZ1 hZ2 hZ3)
        have hTl : (trlL b.rs.length DB CR TT).length ≤ 6000000 := by
          have h1 := lineL_len [⟨#[84]⟩, itoS b.rs.length, itoS DB, itoS CR, itoS TT] 1000000 (hsz5 (by decide) (Nat.le_trans (itoS_size _ hZ0) (by omega)) (Nat.le_trans (itoS_size _ hZ1) (by omega)) (Nat.le_trans (itoS_size _ hZ2) (by omega)) (Nat.le_trans (itoS_size _ hZ3) (by omega)))
          have e : ([⟨#[84]⟩, itoS b.rs.length, itoS DB, itoS CR, itoS TT] : List ByteArray).length = 5 := rfl
          rw [e] at h1
          unfold trlL
          omega
        obtain ⟨T, hT⟩ : ∃ T : ByteArray, T = ⟨(trlL b.rs.length DB CR TT).toArray⟩ := ⟨_, rfl⟩
        have hTz : T.size ≤ 6000000 := by rw [hT, tSz]; exact hTl
        rw [← hT] at HTR
        have HXT : Hid (X ++ T = ⟨(bodyL b).toArray⟩) := Lib.hid (by rw [HX.out, hT, tA, HBD.out])
        have hC8 : CRC.size ≤ 1000000 := by
          rw [← hcr]
          show (text8 _).toArray.size ≤ 1000000
          rw [List.size_toArray, text8_len]; omega
        have HDG : Hid (∀ W, TzW W → Calls Tryz.prog 70 #[.string (X ++ T)] W (StrPost CRC W)) := Lib.hid (fun W h => by
          have h2 := rdig_any (X ++ T) W h (by rw [ByteArray.size_append]; unfold maxLen; omega)
          rw [HXT.out] at h2 ⊢
          rw [← hcr]
          exact h2)
        have HL := Lib.hid (fun W => rlin2 ⟨#[67]⟩ CRC W (by decide) hC8)
        have hYl := lineL_len [⟨#[67]⟩, CRC] 1000000 (hsz2 (by decide) hC8)
        obtain ⟨Y, hY⟩ : ∃ Y : ByteArray, Y = ⟨(lineL [⟨#[67]⟩, CRC]).toArray⟩ := ⟨_, rfl⟩
        have hYz : Y.size ≤ 10000000 := by
          rw [hY, tSz]
          have e : ([⟨#[67]⟩, CRC] : List ByteArray).length = 2 := rfl
          rw [e] at hYl; omega
        have HFN : Hid (encB b = X ++ T ++ Y) := Lib.hid (by rw [HEN.out, HTX.out, HXT.out, hY, tA])
        rw [← hY] at HL
        have hXTz : (X ++ T).size ≤ 2000000000 := by rw [ByteArray.size_append]; omega
        unfold StrPost at HL HTR HDG
        unfold totV at HTR
        have kI : ¬ (b.rs.length : Int) < (b.rs.length : Int) := by omega
        clear hYl hY hT hTl hcr hC8 hZ0 hZ1 hZ2 hZ3 HBD HTX HXT HX
        go_wp2_with fail
        refine (HSM.out wr (HR.out.below HW.out.be)).mono ?_
        rintro e w1 ⟨rfl, hb⟩
        have HW1 := Lib.hid (HW.out.below hb)
        clear hb ht3
        go_wp2_with fail
        refine (HTR.out _ (HKW.out.below HW1.out.be).1.1).mono ?_
        rintro e w2 ⟨rfl, hb⟩
        have HW2 := Lib.hid (HW1.out.below hb)
        clear hb
        go_wp2_with fail
        refine (HDG.out _ (HKW.out.below HW2.out.be).2).mono ?_
        rintro e w3 ⟨rfl, hb⟩
        have HW3 := Lib.hid (HW2.out.below hb)
        clear hb
        go_wp2_with fail
        refine (HL.out _).mono ?_
        rintro e w4 ⟨rfl, hb⟩
        have HW4 := Lib.hid (HW3.out.below hb)
        clear hb
        go_wp2_with fail
        go_ret2
        exact ⟨by rw [HFN.out]; rfl, HW4.out.be⟩
  · have HE := Lib.hid (show encB b = ⟨#[]⟩ by unfold encB; rw [if_neg hE])
    rw [HE.out]
    generalize chkB b = E at *
    have heb : (E != 0) = true := by simpa using hE
    clear hE hok hsz hi hs hw hr
    go_enter Tryz.func44, Tryz.ntmps44
    go_wp2_with fail
    refine (HCK.out _ (HR.out.below (bx _ _))).mono ?_
    rintro e w1 ⟨rfl, hb⟩
    have HB := Lib.hid (box1 hb).2.2
    clear hb
    go_wp2_with fail
    go_ret2
    exact ⟨rfl, HB.out⟩
end Go.Proofs.YthflmdgfenojcaaGreatDoor
namespace Go.Proofs.YthflmdgfenojcaaGreatDoor
set_option linter.unusedVariables false
open Go.RowKit Go.Sort Go.Maps
end Go.Proofs.YthflmdgfenojcaaGreatDoor
