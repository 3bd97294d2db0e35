/- The reference's Check of a record (printed by gen_rchk32.py). -/
import Derived.Test.YthflmdgfenojcaaGreatDoorRLex
import Derived.Test.YthflmdgfenojcaaGreatDoorRPan
import Derived.Test.YthflmdgfenojcaaGreatDoorRMon
import Derived.Test.YthflmdgfenojcaaGreatDoorAwk
namespace Go.Proofs.YthflmdgfenojcaaGreatDoor
set_option linter.unusedVariables false
open Go.RowKit Go.Sort

theorem ways_names {b1 b0 b2 b3 b4 b5 : Bool} : (b1 = false) ∨ (b1 = true ∧ b0 = false ∧ b2 = false) ∨ (b1 = true ∧ b0 = true ∧ b3 = false) ∨ (b1 = true ∧ b0 = true ∧ b3 = true ∧ b4 = false) ∨ (b1 = true ∧ b0 = true ∧ b3 = true ∧ b4 = true ∧ b5 = false) ∨ (b1 = true ∧ b0 = true ∧ b3 = true ∧ b4 = true ∧ b5 = true) ∨ (b1 = true ∧ b0 = false ∧ b2 = true ∧ b3 = false) ∨ (b1 = true ∧ b0 = false ∧ b2 = true ∧ b3 = true ∧ b4 = false) ∨ (b1 = true ∧ b0 = false ∧ b2 = true ∧ b3 = true ∧ b4 = true ∧ b5 = false) ∨ (b1 = true ∧ b0 = false ∧ b2 = true ∧ b3 = true ∧ b4 = true ∧ b5 = true) := by
  cases b1 <;> cases b0 <;> cases b2 <;> cases b3 <;> cases b4 <;> cases b5 <;> simp
/-- What the parts say together. -/
theorem chk_of (r : Rec) : chkE r = if kindE r ≠ 0 then kindE r else if namesE r ≠ 0 then namesE r else if cardE r ≠ 0 then cardE r else if monE r.a r.cu ≠ 0 then monE r.a r.cu else if limE r ≠ 0 then limE r else dateE r := rfl
set_option maxRecDepth 100000 in
set_option maxHeartbeats 25600000 in
theorem rchk_any (r : Rec) (hr : r.Fit) (w : World) : Calls Tryz.prog 36 #[r.val] w (PtPost (chkE r) w) := by
  have HC := Lib.hid (chk_of r)
  obtain ⟨K, id, au, aq, iss, me, ca, a, cu, d, c, f⟩ := r
  obtain ⟨h1, h2, h3, h4, h5, h6, h7⟩ := hr
  unfold kindE namesE cardE limE dateE at HC
  unfold Rec.val Rec.cells PtPost
  dsimp only at *
  have H1 := Lib.hid (fun W => rident_any id W h1)
  have H2 := Lib.hid (fun W => rident_any au W h2)
  have H3 := Lib.hid (fun W => rname_any aq W h3)
  have H4 := Lib.hid (fun W => rname_any iss W h4)
  have H5 := Lib.hid (fun W => rident_any me W h5)
  have H6 := Lib.hid (fun W => rpan_any ca W h6)
  have H7 := Lib.hid (fun W => rmon_any a cu W h7)
  have hem := empty_list au
  clear h1 h2 h3 h4 h5 h6 h7
  generalize idB id = b1 at *
  generalize idB au = b2 at *
  generalize nameB aq.data.toList = b3 at *
  generalize nameB iss.data.toList = b4 at *
  generalize idB me = b5 at *
  generalize emptyB au = b0 at *
  generalize panE ca = PE at *
  generalize monE a cu = ME at *
  generalize chkE ⟨K, id, au, aq, iss, me, ca, a, cu, d, c, f⟩ = CE at *
  have HB0 : Hid (Below w.heap.size w (w.alloc (.cells #[.int .i64 K, .string id, .string au, .string aq, .string iss, .string me, .string ca, .int .i64 a, .string cu, .int .i64 d, .int .i64 c, .bool f] 57))) := Lib.hid (bx w _)
  have hk : K < 1 ∨ (¬ K < 1 ∧ 4 < K) ∨ (¬ K < 1 ∧ ¬ 4 < K) := by omega
  rcases hk with k1 | ⟨k1, k2⟩ | ⟨k1, k2⟩
  · have HE := Lib.hid (show CE = 4 by rw [HC.out, if_neg (show ¬ (1 ≤ K ∧ K ≤ 4) by omega), if_pos (by decide)])
    go_enter Tryz.func36, Tryz.ntmps36
    go_wp2_with fail
    go_ret
    exact ⟨by rw [HE.out]; rfl, HB0.out⟩
  · have HE := Lib.hid (show CE = 4 by rw [HC.out, if_neg (show ¬ (1 ≤ K ∧ K ≤ 4) by omega), if_pos (by decide)])
    go_enter Tryz.func36, Tryz.ntmps36
    go_wp2_with fail
    go_ret
    exact ⟨by rw [HE.out]; rfl, HB0.out⟩
  · have HC1 : Hid (CE = if (if b1 = true ∧ (b0 = true ∨ b2 = true) ∧ b3 = true ∧ b4 = true ∧ b5 = true then 0 else (5 : Int)) ≠ 0 then (if b1 = true ∧ (b0 = true ∨ b2 = true) ∧ b3 = true ∧ b4 = true ∧ b5 = true then 0 else 5) else if (if PE = 0 then 0 else (17 : Int)) ≠ 0 then (if PE = 0 then 0 else 17) else if ME ≠ 0 then ME else if (if 1 ≤ a ∧ a ≤ 999999999999 ∧ 0 ≤ c ∧ c ≤ 9999 then 0 else (4 : Int)) ≠ 0 then (if 1 ≤ a ∧ a ≤ 999999999999 ∧ 0 ≤ c ∧ c ≤ 9999 then 0 else 4) else if 0 ≤ d ∧ d ≤ 99999 then 0 else 14) := Lib.hid (by rw [HC.out, if_pos (show 1 ≤ K ∧ K ≤ 4 by omega), if_neg (by decide)])
    clear HC
    rcases @ways_names b1 b0 b2 b3 b4 b5 with rfl | ⟨rfl, rfl, rfl⟩ | ⟨rfl, rfl, rfl⟩ | ⟨rfl, rfl, rfl, rfl⟩ | ⟨rfl, rfl, rfl, rfl, rfl⟩ | ⟨rfl, rfl, rfl, rfl, rfl⟩ | ⟨rfl, rfl, rfl, rfl⟩ | ⟨rfl, rfl, rfl, rfl, rfl⟩ | ⟨rfl, rfl, rfl, rfl, rfl, rfl⟩ | ⟨rfl, rfl, rfl, rfl, rfl, rfl⟩
    · have HE := Lib.hid (show CE = 5 by rw [HC1.out]; simp)
      go_enter Tryz.func36, Tryz.ntmps36
      go_wp2_with fail
      refine (H1.out _).mono ?_
      rintro e w' ⟨rfl, rfl⟩
      go_wp2_with fail
      go_ret
      exact ⟨by rw [HE.out]; rfl, HB0.out⟩
    · have HE := Lib.hid (show CE = 5 by rw [HC1.out]; simp)
      go_enter Tryz.func36, Tryz.ntmps36
      go_wp2_with fail
      refine (H1.out _).mono ?_
      rintro e w' ⟨rfl, rfl⟩
      go_wp2_with fail
      refine (H2.out _).mono ?_
      rintro e w' ⟨rfl, rfl⟩
      go_wp2_with fail
      go_ret
      exact ⟨by rw [HE.out]; rfl, HB0.out⟩
    · have HE := Lib.hid (show CE = 5 by rw [HC1.out]; simp)
      go_enter Tryz.func36, Tryz.ntmps36
      go_wp2_with fail
      refine (H1.out _).mono ?_
      rintro e w' ⟨rfl, rfl⟩
      go_wp2_with fail
      refine (H3.out _).mono ?_
      rintro e w' ⟨rfl, rfl⟩
      go_wp2_with fail
      go_ret
      exact ⟨by rw [HE.out]; rfl, HB0.out⟩
    · have HE := Lib.hid (show CE = 5 by rw [HC1.out]; simp)
      go_enter Tryz.func36, Tryz.ntmps36
      go_wp2_with fail
      refine (H1.out _).mono ?_
      rintro e w' ⟨rfl, rfl⟩
      go_wp2_with fail
      refine (H3.out _).mono ?_
      rintro e w' ⟨rfl, rfl⟩
      go_wp2_with fail
      refine (H4.out _).mono ?_
      rintro e w' ⟨rfl, rfl⟩
      go_wp2_with fail
      go_ret
      exact ⟨by rw [HE.out]; rfl, HB0.out⟩
    · have HE := Lib.hid (show CE = 5 by rw [HC1.out]; simp)
      go_enter Tryz.func36, Tryz.ntmps36
      go_wp2_with fail
      refine (H1.out _).mono ?_
      rintro e w' ⟨rfl, rfl⟩
      go_wp2_with fail
      refine (H3.out _).mono ?_
      rintro e w' ⟨rfl, rfl⟩
      go_wp2_with fail
      refine (H4.out _).mono ?_
      rintro e w' ⟨rfl, rfl⟩
      go_wp2_with fail
      refine (H5.out _).mono ?_
      rintro e w' ⟨rfl, rfl⟩
      go_wp2_with fail
      go_ret
      exact ⟨by rw [HE.out]; rfl, HB0.out⟩
    · have HC2 : Hid (CE = if (if PE = 0 then 0 else (17 : Int)) ≠ 0 then (if PE = 0 then 0 else 17) else if ME ≠ 0 then ME else if (if 1 ≤ a ∧ a ≤ 999999999999 ∧ 0 ≤ c ∧ c ≤ 9999 then 0 else (4 : Int)) ≠ 0 then (if 1 ≤ a ∧ a ≤ 999999999999 ∧ 0 ≤ c ∧ c ≤ 9999 then 0 else 4) else if 0 ≤ d ∧ d ≤ 99999 then 0 else 14) := Lib.hid (by rw [HC1.out]; simp)
      clear HC1
      go_enter Tryz.func36, Tryz.ntmps36
      go_wp2_with fail
      refine (H1.out _).mono ?_
      rintro e w' ⟨rfl, rfl⟩
      go_wp2_with fail
      refine (H3.out _).mono ?_
      rintro e w' ⟨rfl, rfl⟩
      go_wp2_with fail
      refine (H4.out _).mono ?_
      rintro e w' ⟨rfl, rfl⟩
      go_wp2_with fail
      refine (H5.out _).mono ?_
      rintro e w' ⟨rfl, rfl⟩
      go_wp2_with fail
      refine (H6.out _).mono ?_
      rintro e w1 ⟨rfl, hb⟩
      obtain ⟨hk1, -, hb1⟩ := box1 hb
      have HB := Lib.hid hb1
      have HK := Lib.hid hk1
      clear hb hk1 hb1
      obtain ⟨-, r0, r1, r2, r3, r4, r5, r6, r7, r8, r9, r10, r11⟩ := row12 (Below.refl _ _) HK.out
      cases q : (PE != 0)
      case true =>
        have HE := Lib.hid (show CE = 17 by rw [HC2.out, if_neg (show ¬ PE = 0 by simpa using q), if_pos (by decide)])
        go_wp2_with fail
        go_ret
        exact ⟨by rw [HE.out]; rfl, HB.out⟩
      case false =>
        have HC3 : Hid (CE = if ME ≠ 0 then ME else if (if 1 ≤ a ∧ a ≤ 999999999999 ∧ 0 ≤ c ∧ c ≤ 9999 then 0 else (4 : Int)) ≠ 0 then (if 1 ≤ a ∧ a ≤ 999999999999 ∧ 0 ≤ c ∧ c ≤ 9999 then 0 else 4) else if 0 ≤ d ∧ d ≤ 99999 then 0 else 14) := Lib.hid (by rw [HC2.out, if_pos (show PE = 0 by simpa using q), if_neg (by decide)])
        clear HC2
        go_wp2_with fail
        refine (H7.out _).mono ?_
        rintro e w2 ⟨rfl, hb⟩
        have HB2 := Lib.hid (HB.out.trans (hb.mono HB.out.size))
        have HK2 := Lib.hid (blk_later HK.out hb)
        clear hb r0 r1 r2 r3 r4 r5 r6 r7 r8 r9 r10 r11
        obtain ⟨-, r0, r1, r2, r3, r4, r5, r6, r7, r8, r9, r10, r11⟩ := row12 (Below.refl _ _) HK2.out
        cases qm : (ME != 0)
        case true =>
          have HE := Lib.hid (show CE = ME by rw [HC3.out, if_pos (by simpa using qm)])
          go_wp2_with fail
          refine (H7.out _).mono ?_
          rintro e w3 ⟨rfl, hb⟩
          have HB3 := Lib.hid (HB2.out.trans (hb.mono HB2.out.size))
          clear hb r0 r1 r2 r3 r4 r5 r6 r7 r8 r9 r10 r11
          go_wp2_with fail
          go_ret
          exact ⟨by rw [HE.out]; rfl, HB3.out⟩
        case false =>
          have HC4 : Hid (CE = if (if 1 ≤ a ∧ a ≤ 999999999999 ∧ 0 ≤ c ∧ c ≤ 9999 then 0 else (4 : Int)) ≠ 0 then (if 1 ≤ a ∧ a ≤ 999999999999 ∧ 0 ≤ c ∧ c ≤ 9999 then 0 else 4) else if 0 ≤ d ∧ d ≤ 99999 then 0 else 14) := Lib.hid (by rw [HC3.out, if_neg (by simpa using qm)])
          clear HC3
          have hl : a < 1 ∨ (¬ a < 1 ∧ 999999999999 < a) ∨ (¬ a < 1 ∧ ¬ 999999999999 < a ∧ c < 0) ∨ (¬ a < 1 ∧ ¬ 999999999999 < a ∧ ¬ c < 0 ∧ 9999 < c) ∨ (¬ a < 1 ∧ ¬ 999999999999 < a ∧ ¬ c < 0 ∧ ¬ 9999 < c) := by omega
          rcases hl with l1 | ⟨l1, l2⟩ | ⟨l1, l2, l3⟩ | ⟨l1, l2, l3, l4⟩ | ⟨l1, l2, l3, l4⟩
          · have HE := Lib.hid (show CE = 4 by rw [HC4.out, if_neg (show ¬ (1 ≤ a ∧ a ≤ 999999999999 ∧ 0 ≤ c ∧ c ≤ 9999) by omega), if_pos (by decide)])
            go_wp2_with fail
            go_ret
            exact ⟨by rw [HE.out]; rfl, HB2.out⟩
          · have HE := Lib.hid (show CE = 4 by rw [HC4.out, if_neg (show ¬ (1 ≤ a ∧ a ≤ 999999999999 ∧ 0 ≤ c ∧ c ≤ 9999) by omega), if_pos (by decide)])
            go_wp2_with fail
            go_ret
            exact ⟨by rw [HE.out]; rfl, HB2.out⟩
          · have HE := Lib.hid (show CE = 4 by rw [HC4.out, if_neg (show ¬ (1 ≤ a ∧ a ≤ 999999999999 ∧ 0 ≤ c ∧ c ≤ 9999) by omega), if_pos (by decide)])
            go_wp2_with fail
            go_ret
            exact ⟨by rw [HE.out]; rfl, HB2.out⟩
          · have HE := Lib.hid (show CE = 4 by rw [HC4.out, if_neg (show ¬ (1 ≤ a ∧ a ≤ 999999999999 ∧ 0 ≤ c ∧ c ≤ 9999) by omega), if_pos (by decide)])
            go_wp2_with fail
            go_ret
            exact ⟨by rw [HE.out]; rfl, HB2.out⟩
          · have HC5 : Hid (CE = if 0 ≤ d ∧ d ≤ 99999 then 0 else 14) := Lib.hid (by rw [HC4.out, if_pos (show 1 ≤ a ∧ a ≤ 999999999999 ∧ 0 ≤ c ∧ c ≤ 9999 by omega), if_neg (by decide)])
            clear HC4
            have hd : d < 0 ∨ (¬ d < 0 ∧ 99999 < d) ∨ (¬ d < 0 ∧ ¬ 99999 < d) := by omega
            rcases hd with l5 | ⟨l5, l6⟩ | ⟨l5, l6⟩
            · have HE := Lib.hid (show CE = 14 by rw [HC5.out, if_neg (show ¬ (0 ≤ d ∧ d ≤ 99999) by omega)])
              go_wp2_with fail
              go_ret
              exact ⟨by rw [HE.out]; rfl, HB2.out⟩
            · have HE := Lib.hid (show CE = 14 by rw [HC5.out, if_neg (show ¬ (0 ≤ d ∧ d ≤ 99999) by omega)])
              go_wp2_with fail
              go_ret
              exact ⟨by rw [HE.out]; rfl, HB2.out⟩
            · have HE := Lib.hid (show CE = 0 by rw [HC5.out, if_pos (show 0 ≤ d ∧ d ≤ 99999 by omega)])
              go_wp2_with fail
              go_ret
              exact ⟨by rw [HE.out]; rfl, HB2.out⟩
    · have HE := Lib.hid (show CE = 5 by rw [HC1.out]; simp)
      go_enter Tryz.func36, Tryz.ntmps36
      go_wp2_with fail
      refine (H1.out _).mono ?_
      rintro e w' ⟨rfl, rfl⟩
      go_wp2_with fail
      refine (H2.out _).mono ?_
      rintro e w' ⟨rfl, rfl⟩
      go_wp2_with fail
      refine (H3.out _).mono ?_
      rintro e w' ⟨rfl, rfl⟩
      go_wp2_with fail
      go_ret
      exact ⟨by rw [HE.out]; rfl, HB0.out⟩
    · have HE := Lib.hid (show CE = 5 by rw [HC1.out]; simp)
      go_enter Tryz.func36, Tryz.ntmps36
      go_wp2_with fail
      refine (H1.out _).mono ?_
      rintro e w' ⟨rfl, rfl⟩
      go_wp2_with fail
      refine (H2.out _).mono ?_
      rintro e w' ⟨rfl, rfl⟩
      go_wp2_with fail
      refine (H3.out _).mono ?_
      rintro e w' ⟨rfl, rfl⟩
      go_wp2_with fail
      refine (H4.out _).mono ?_
      rintro e w' ⟨rfl, rfl⟩
      go_wp2_with fail
      go_ret
      exact ⟨by rw [HE.out]; rfl, HB0.out⟩
    · have HE := Lib.hid (show CE = 5 by rw [HC1.out]; simp)
      go_enter Tryz.func36, Tryz.ntmps36
      go_wp2_with fail
      refine (H1.out _).mono ?_
      rintro e w' ⟨rfl, rfl⟩
      go_wp2_with fail
      refine (H2.out _).mono ?_
      rintro e w' ⟨rfl, rfl⟩
      go_wp2_with fail
      refine (H3.out _).mono ?_
      rintro e w' ⟨rfl, rfl⟩
      go_wp2_with fail
      refine (H4.out _).mono ?_
      rintro e w' ⟨rfl, rfl⟩
      go_wp2_with fail
      refine (H5.out _).mono ?_
      rintro e w' ⟨rfl, rfl⟩
      go_wp2_with fail
      go_ret
      exact ⟨by rw [HE.out]; rfl, HB0.out⟩
    · have HC2 : Hid (CE = if (if PE = 0 then 0 else (17 : Int)) ≠ 0 then (if PE = 0 then 0 else 17) else if ME ≠ 0 then ME else if (if 1 ≤ a ∧ a ≤ 999999999999 ∧ 0 ≤ c ∧ c ≤ 9999 then 0 else (4 : Int)) ≠ 0 then (if 1 ≤ a ∧ a ≤ 999999999999 ∧ 0 ≤ c ∧ c ≤ 9999 then 0 else 4) else if 0 ≤ d ∧ d ≤ 99999 then 0 else 14) := Lib.hid (by rw [HC1.out]; simp)
      clear HC1
      go_enter Tryz.func36, Tryz.ntmps36
      go_wp2_with fail
      refine (H1.out _).mono ?_
      rintro e w' ⟨rfl, rfl⟩
      go_wp2_with fail
      refine (H2.out _).mono ?_
      rintro e w' ⟨rfl, rfl⟩
      go_wp2_with fail
      refine (H3.out _).mono ?_
      rintro e w' ⟨rfl, rfl⟩
      go_wp2_with fail
      refine (H4.out _).mono ?_
      rintro e w' ⟨rfl, rfl⟩
      go_wp2_with fail
      refine (H5.out _).mono ?_
      rintro e w' ⟨rfl, rfl⟩
      go_wp2_with fail
      refine (H6.out _).mono ?_
      rintro e w1 ⟨rfl, hb⟩
      obtain ⟨hk1, -, hb1⟩ := box1 hb
      have HB := Lib.hid hb1
      have HK := Lib.hid hk1
      clear hb hk1 hb1
      obtain ⟨-, r0, r1, r2, r3, r4, r5, r6, r7, r8, r9, r10, r11⟩ := row12 (Below.refl _ _) HK.out
      cases q : (PE != 0)
      case true =>
        have HE := Lib.hid (show CE = 17 by rw [HC2.out, if_neg (show ¬ PE = 0 by simpa using q), if_pos (by decide)])
        go_wp2_with fail
        go_ret
        exact ⟨by rw [HE.out]; rfl, HB.out⟩
      case false =>
        have HC3 : Hid (CE = if ME ≠ 0 then ME else if (if 1 ≤ a ∧ a ≤ 999999999999 ∧ 0 ≤ c ∧ c ≤ 9999 then 0 else (4 : Int)) ≠ 0 then (if 1 ≤ a ∧ a ≤ 999999999999 ∧ 0 ≤ c ∧ c ≤ 9999 then 0 else 4) else if 0 ≤ d ∧ d ≤ 99999 then 0 else 14) := Lib.hid (by rw [HC2.out, if_pos (show PE = 0 by simpa using q), if_neg (by decide)])
        clear HC2
        go_wp2_with fail
        refine (H7.out _).mono ?_
        rintro e w2 ⟨rfl, hb⟩
        have HB2 := Lib.hid (HB.out.trans (hb.mono HB.out.size))
        have HK2 := Lib.hid (blk_later HK.out hb)
        clear hb r0 r1 r2 r3 r4 r5 r6 r7 r8 r9 r10 r11
        obtain ⟨-, r0, r1, r2, r3, r4, r5, r6, r7, r8, r9, r10, r11⟩ := row12 (Below.refl _ _) HK2.out
        cases qm : (ME != 0)
        case true =>
          have HE := Lib.hid (show CE = ME by rw [HC3.out, if_pos (by simpa using qm)])
          go_wp2_with fail
          refine (H7.out _).mono ?_
          rintro e w3 ⟨rfl, hb⟩
          have HB3 := Lib.hid (HB2.out.trans (hb.mono HB2.out.size))
          clear hb r0 r1 r2 r3 r4 r5 r6 r7 r8 r9 r10 r11
          go_wp2_with fail
          go_ret
          exact ⟨by rw [HE.out]; rfl, HB3.out⟩
        case false =>
          have HC4 : Hid (CE = if (if 1 ≤ a ∧ a ≤ 999999999999 ∧ 0 ≤ c ∧ c ≤ 9999 then 0 else (4 : Int)) ≠ 0 then (if 1 ≤ a ∧ a ≤ 999999999999 ∧ 0 ≤ c ∧ c ≤ 9999 then 0 else 4) else if 0 ≤ d ∧ d ≤ 99999 then 0 else 14) := Lib.hid (by rw [HC3.out, if_neg (by simpa using qm)])
          clear HC3
          have hl : a < 1 ∨ (¬ a < 1 ∧ 999999999999 < a) ∨ (¬ a < 1 ∧ ¬ 999999999999 < a ∧ c < 0) ∨ (¬ a < 1 ∧ ¬ 999999999999 < a ∧ ¬ c < 0 ∧ 9999 < c) ∨ (¬ a < 1 ∧ ¬ 999999999999 < a ∧ ¬ c < 0 ∧ ¬ 9999 < c) := by omega
          rcases hl with l1 | ⟨l1, l2⟩ | ⟨l1, l2, l3⟩ | ⟨l1, l2, l3, l4⟩ | ⟨l1, l2, l3, l4⟩
          · have HE := Lib.hid (show CE = 4 by rw [HC4.out, if_neg (show ¬ (1 ≤ a ∧ a ≤ 999999999999 ∧ 0 ≤ c ∧ c ≤ 9999) by omega), if_pos (by decide)])
            go_wp2_with fail
            go_ret
            exact ⟨by rw [HE.out]; rfl, HB2.out⟩
          · have HE := Lib.hid (show CE = 4 by rw [HC4.out, if_neg (show ¬ (1 ≤ a ∧ a ≤ 999999999999 ∧ 0 ≤ c ∧ c ≤ 9999) by omega), if_pos (by decide)])
            go_wp2_with fail
            go_ret
            exact ⟨by rw [HE.out]; rfl, HB2.out⟩
          · have HE := Lib.hid (show CE = 4 by rw [HC4.out, if_neg (show ¬ (1 ≤ a ∧ a ≤ 999999999999 ∧ 0 ≤ c ∧ c ≤ 9999) by omega), if_pos (by decide)])
            go_wp2_with fail
            go_ret
            exact ⟨by rw [HE.out]; rfl, HB2.out⟩
          · have HE := Lib.hid (show CE = 4 by rw [HC4.out, if_neg (show ¬ (1 ≤ a ∧ a ≤ 999999999999 ∧ 0 ≤ c ∧ c ≤ 9999) by omega), if_pos (by decide)])
            go_wp2_with fail
            go_ret
            exact ⟨by rw [HE.out]; rfl, HB2.out⟩
          · have HC5 : Hid (CE = if 0 ≤ d ∧ d ≤ 99999 then 0 else 14) := Lib.hid (by rw [HC4.out, if_pos (show 1 ≤ a ∧ a ≤ 999999999999 ∧ 0 ≤ c ∧ c ≤ 9999 by omega), if_neg (by decide)])
            clear HC4
            have hd : d < 0 ∨ (¬ d < 0 ∧ 99999 < d) ∨ (¬ d < 0 ∧ ¬ 99999 < d) := by omega
            rcases hd with l5 | ⟨l5, l6⟩ | ⟨l5, l6⟩
            · have HE := Lib.hid (show CE = 14 by rw [HC5.out, if_neg (show ¬ (0 ≤ d ∧ d ≤ 99999) by omega)])
              go_wp2_with fail
              go_ret
              exact ⟨by rw [HE.out]; rfl, HB2.out⟩
            · have HE := Lib.hid (show CE = 14 by rw [HC5.out, if_neg (show ¬ (0 ≤ d ∧ d ≤ 99999) by omega)])
              go_wp2_with fail
              go_ret
              exact ⟨by rw [HE.out]; rfl, HB2.out⟩
            · have HE := Lib.hid (show CE = 0 by rw [HC5.out, if_pos (show 0 ≤ d ∧ d ≤ 99999 by omega)])
              go_wp2_with fail
              go_ret
              exact ⟨by rw [HE.out]; rfl, HB2.out⟩
end Go.Proofs.YthflmdgfenojcaaGreatDoor
