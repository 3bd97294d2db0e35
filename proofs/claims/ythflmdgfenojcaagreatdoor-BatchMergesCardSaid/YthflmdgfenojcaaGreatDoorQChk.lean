/- Part of the proof over this seat. -/
import Derived.Deep.LoopGhost
import Derived.Test.YthflmdgfenojcaaGreatDoorQRec
namespace Go.Proofs.YthflmdgfenojcaaGreatDoor
set_option linter.unusedVariables false
open Go.RowKit
/-- The error of a point. -/
def ptE (r : Rec) : Nat → Int
  | 0 => kindE r
  | 1 => namesE r
  | 2 => cardE r
  | 3 => monE r.a r.cu
  | 4 => limE r
  | _ => dateE r
def chkE (r : Rec) : Int := if ptE r 0 ≠ 0 then ptE r 0 else if ptE r 1 ≠ 0 then ptE r 1 else if ptE r 2 ≠ 0 then ptE r 2 else if ptE r 3 ≠ 0 then ptE r 3 else if ptE r 4 ≠ 0 then ptE r 4 else ptE r 5
theorem chkE_at (r : Rec) (k : Nat) (hk : k < 6) (h : ∀ j, j < k → ptE r j = 0) (he : ptE r k ≠ 0) : chkE r = ptE r k := by
  have h' : ∀ j, j < k → ¬ ptE r j ≠ 0 := fun j hj => by rw [h j hj]; simp
  unfold chkE
  have hc : k = 0 ∨ k = 1 ∨ k = 2 ∨ k = 3 ∨ k = 4 ∨ k = 5 := by omega
  rcases hc with rfl | rfl | rfl | rfl | rfl | rfl
  · rw [if_pos he]
  · rw [if_neg (h' 0 (by omega)), if_pos he]
  · rw [if_neg (h' 0 (by omega)), if_neg (h' 1 (by omega)), if_pos he]
  · rw [if_neg (h' 0 (by omega)), if_neg (h' 1 (by omega)), if_neg (h' 2 (by omega)), if_pos he]
  · rw [if_neg (h' 0 (by omega)), if_neg (h' 1 (by omega)), if_neg (h' 2 (by omega)), if_neg (h' 3 (by omega)), if_pos he]
  · rw [if_neg (h' 0 (by omega)), if_neg (h' 1 (by omega)), if_neg (h' 2 (by omega)), if_neg (h' 3 (by omega)), if_neg (h' 4 (by omega))]
theorem chkE_zero (r : Rec) (h : ∀ j, j < 6 → ptE r j = 0) : chkE r = 0 := by
  have h' : ∀ j, j < 6 → ¬ ptE r j ≠ 0 := fun j hj => by rw [h j hj]; simp
  unfold chkE
  rw [if_neg (h' 0 (by omega)), if_neg (h' 1 (by omega)), if_neg (h' 2 (by omega)), if_neg (h' 3 (by omega)), if_neg (h' 4 (by omega)), h 5 (by omega)]
theorem pt_any (r : Rec) (hr : r.Fit) (j : Nat) (hj : j < 6) (W : World) : Calls Tryz.prog (83 + j) #[r.val] W (PtPost (ptE r j) W) := by
  have hc : j = 0 ∨ j = 1 ∨ j = 2 ∨ j = 3 ∨ j = 4 ∨ j = 5 := by omega
  rcases hc with rfl | rfl | rfl | rfl | rfl | rfl
  · exact kind_any r W
  · exact names_any r hr W
  · exact card_any r hr W
  · exact amount_any r hr W
  · exact lim_any r W
  · exact date_any r W
set_option maxHeartbeats 6400000 in
theorem chk_any (r : Rec) (hr : r.Fit) (w : World) : Calls Tryz.prog 35 #[r.val] w (PtPost (chkE r) w) := by
  have HP := Lib.hid (fun j hj W => pt_any r hr j hj W)
  have HC := Lib.hid (chkE_at r)
  have HZ := Lib.hid (chkE_zero r)
  generalize ptE r = pE at *
  generalize chkE r = CE at *
  obtain ⟨K, id, au, aq, iss, me, ca, a, cu, d, c, f⟩ := r
  unfold Rec.val Rec.cells at *
  unfold PtPost at *
  clear hr
  go_enter Tryz.func35, Tryz.ntmps35
  go_wp2_with fail
  go_loopw [10] (fun i wr => ∃ k : Nat, k ≤ 6 ∧ i = .int .i64 k ∧ Hid (wr.heap[w.heap.size]? = some (.cells #[.int .i64 K, .string id, .string au, .string aq, .string iss, .string me, .string ca, .int .i64 a, .string cu, .int .i64 d, .int .i64 c, .bool f] 57)) ∧
    Hid (wr.heap[w.heap.size + 1]? = some (.cells #[.func (.func 83) #[] #[], .func (.func 84) #[] #[], .func (.func 85) #[] #[], .func (.func 86) #[] #[], .func (.func 87) #[] #[], .func (.func 88) #[] #[]] 130)) ∧ Hid (Below w.heap.size w wr) ∧ Hid (∀ j, j < k → pE j = 0)) (fun i _ => 6 - (intOf i).toNat)
  case atStart =>
    exact ⟨0, by omega, rfl, Lib.hid (blk_later (heap_alloc_new w _) (bx _ _)), Lib.hid (by have := heap_alloc_new (w.alloc (.cells #[.int .i64 K, .string id, .string au, .string aq, .string iss, .string me, .string ca, .int .i64 a, .string cu, .int .i64 d, .int .i64 c, .bool f] 57)) (.cells #[.func (.func 83) #[] #[], .func (.func 84) #[] #[], .func (.func 85) #[] #[], .func (.func 86) #[] #[], .func (.func 87) #[] #[], .func (.func 88) #[] #[]] 130); simpa using this), Lib.hid ((bx w _).trans ((bx _ _).mono (by simp))), Lib.hid (fun j h => by omega)⟩
  case round =>
    obtain ⟨k, hk, rfl, K1, K2, HB, HA⟩ := hrel
    have r0 := cell_c K1.out 0
    have r1 := cell_c K1.out 1
    have r2 := cell_c K1.out 2
    have r3 := cell_c K1.out 3
    have r4 := cell_c K1.out 4
    have r5 := cell_c K1.out 5
    have r6 := cell_c K1.out 6
    have r7 := cell_c K1.out 7
    have r8 := cell_c K1.out 8
    have r9 := cell_c K1.out 9
    have r10 := cell_c K1.out 10
    have r11 := cell_c K1.out 11
    by_cases h6 : k = 6
    · subst h6
      have HF := Lib.hid (HZ.out HA.out)
      clear r0 r1 r2 r3 r4 r5 r6 r7 r8 r9 r10 r11
      go_wp2_with fail
      go_ret
      exact ⟨by rw [HF.out]; rfl, HB.out⟩
    · have hc : k = 0 ∨ k = 1 ∨ k = 2 ∨ k = 3 ∨ k = 4 ∨ k = 5 := by omega
      clear hk h6
      rcases hc with rfl | rfl | rfl | rfl | rfl | rfl
      · have f0 := cell_c K2.out 0
        have HE := Lib.hid (fun h => HC.out 0 (by decide) HA.out h)
        have HN := Lib.hid (show pE 0 = 0 → ∀ j, j < 1 → pE j = 0 from fun h j hj => by
          rcases Nat.lt_or_ge j 0 with q | q
          · exact HA.out j q
          · obtain rfl : j = 0 := by omega
            exact h)
        have HCALL := Lib.hid (HP.out 0 (by decide) wr)
        generalize pE 0 = E at *
        cases q : (E != 0)
        · have HN2 := Lib.hid (HN.out (by simpa using q))
          go_wp2_with fail
          refine HCALL.out.mono ?_
          rintro e w1 ⟨rfl, hb⟩
          have B1 := Lib.hid (HB.out.trans (hb.mono HB.out.size))
          have KK1 := Lib.hid (blk_later K1.out hb)
          have KK2 := Lib.hid (blk_later K2.out hb)
          clear hb r0 r1 r2 r3 r4 r5 r6 r7 r8 r9 r10 r11 f0
          go_wp2_with fail
          go_roundw
          case rel => exact ⟨1, by omega, by go_num, KK1, KK2, B1, HN2⟩
          case measure => simp [intOf]
        · have HE2 := Lib.hid (HE.out (by simpa using q))
          go_wp2_with fail
          refine HCALL.out.mono ?_
          rintro e w1 ⟨rfl, hb⟩
          have B1 := Lib.hid (HB.out.trans (hb.mono HB.out.size))
          clear hb r0 r1 r2 r3 r4 r5 r6 r7 r8 r9 r10 r11 f0
          go_wp2_with fail
          go_ret
          exact ⟨by rw [HE2.out]; rfl, B1.out⟩
      · have f0 := cell_c K2.out 1
        have HE := Lib.hid (fun h => HC.out 1 (by decide) HA.out h)
        have HN := Lib.hid (show pE 1 = 0 → ∀ j, j < 2 → pE j = 0 from fun h j hj => by
          rcases Nat.lt_or_ge j 1 with q | q
          · exact HA.out j q
          · obtain rfl : j = 1 := by omega
            exact h)
        have HCALL := Lib.hid (HP.out 1 (by decide) wr)
        generalize pE 1 = E at *
        cases q : (E != 0)
        · have HN2 := Lib.hid (HN.out (by simpa using q))
          go_wp2_with fail
          refine HCALL.out.mono ?_
          rintro e w1 ⟨rfl, hb⟩
          have B1 := Lib.hid (HB.out.trans (hb.mono HB.out.size))
          have KK1 := Lib.hid (blk_later K1.out hb)
          have KK2 := Lib.hid (blk_later K2.out hb)
          clear hb r0 r1 r2 r3 r4 r5 r6 r7 r8 r9 r10 r11 f0
          go_wp2_with fail
          go_roundw
          case rel => exact ⟨2, by omega, by go_num, KK1, KK2, B1, HN2⟩
          case measure => simp [intOf]
        · have HE2 := Lib.hid (HE.out (by simpa using q))
          go_wp2_with fail
          refine HCALL.out.mono ?_
          rintro e w1 ⟨rfl, hb⟩
          have B1 := Lib.hid (HB.out.trans (hb.mono HB.out.size))
          clear hb r0 r1 r2 r3 r4 r5 r6 r7 r8 r9 r10 r11 f0
          go_wp2_with fail
          go_ret
          exact ⟨by rw [HE2.out]; rfl, B1.out⟩
      · have f0 := cell_c K2.out 2
        have HE := Lib.hid (fun h => HC.out 2 (by decide) HA.out h)
        have HN := Lib.hid (show pE 2 = 0 → ∀ j, j < 3 → pE j = 0 from fun h j hj => by
          rcases Nat.lt_or_ge j 2 with q | q
          · exact HA.out j q
          · obtain rfl : j = 2 := by omega
            exact h)
        have HCALL := Lib.hid (HP.out 2 (by decide) wr)
        generalize pE 2 = E at *
        cases q : (E != 0)
        · have HN2 := Lib.hid (HN.out (by simpa using q))
          go_wp2_with fail
          refine HCALL.out.mono ?_
          rintro e w1 ⟨rfl, hb⟩
          have B1 := Lib.hid (HB.out.trans (hb.mono HB.out.size))
          have KK1 := Lib.hid (blk_later K1.out hb)
          have KK2 := Lib.hid (blk_later K2.out hb)
          clear hb r0 r1 r2 r3 r4 r5 r6 r7 r8 r9 r10 r11 f0
          go_wp2_with fail
          go_roundw
          case rel => exact ⟨3, by omega, by go_num, KK1, KK2, B1, HN2⟩
          case measure => simp [intOf]
        · have HE2 := Lib.hid (HE.out (by simpa using q))
          go_wp2_with fail
          refine HCALL.out.mono ?_
          rintro e w1 ⟨rfl, hb⟩
          have B1 := Lib.hid (HB.out.trans (hb.mono HB.out.size))
          clear hb r0 r1 r2 r3 r4 r5 r6 r7 r8 r9 r10 r11 f0
          go_wp2_with fail
          go_ret
          exact ⟨by rw [HE2.out]; rfl, B1.out⟩
      · have f0 := cell_c K2.out 3
        have HE := Lib.hid (fun h => HC.out 3 (by decide) HA.out h)
        have HN := Lib.hid (show pE 3 = 0 → ∀ j, j < 4 → pE j = 0 from fun h j hj => by
          rcases Nat.lt_or_ge j 3 with q | q
          · exact HA.out j q
          · obtain rfl : j = 3 := by omega
            exact h)
        have HCALL := Lib.hid (HP.out 3 (by decide) wr)
        generalize pE 3 = E at *
        cases q : (E != 0)
        · have HN2 := Lib.hid (HN.out (by simpa using q))
          go_wp2_with fail
          refine HCALL.out.mono ?_
          rintro e w1 ⟨rfl, hb⟩
          have B1 := Lib.hid (HB.out.trans (hb.mono HB.out.size))
          have KK1 := Lib.hid (blk_later K1.out hb)
          have KK2 := Lib.hid (blk_later K2.out hb)
          clear hb r0 r1 r2 r3 r4 r5 r6 r7 r8 r9 r10 r11 f0
          go_wp2_with fail
          go_roundw
          case rel => exact ⟨4, by omega, by go_num, KK1, KK2, B1, HN2⟩
          case measure => simp [intOf]
        · have HE2 := Lib.hid (HE.out (by simpa using q))
          go_wp2_with fail
          refine HCALL.out.mono ?_
          rintro e w1 ⟨rfl, hb⟩
          have B1 := Lib.hid (HB.out.trans (hb.mono HB.out.size))
          clear hb r0 r1 r2 r3 r4 r5 r6 r7 r8 r9 r10 r11 f0
          go_wp2_with fail
          go_ret
          exact ⟨by rw [HE2.out]; rfl, B1.out⟩
      · have f0 := cell_c K2.out 4
        have HE := Lib.hid (fun h => HC.out 4 (by decide) HA.out h)
        have HN := Lib.hid (show pE 4 = 0 → ∀ j, j < 5 → pE j = 0 from fun h j hj => by
          rcases Nat.lt_or_ge j 4 with q | q
          · exact HA.out j q
          · obtain rfl : j = 4 := by omega
            exact h)
        have HCALL := Lib.hid (HP.out 4 (by decide) wr)
        generalize pE 4 = E at *
        cases q : (E != 0)
        · have HN2 := Lib.hid (HN.out (by simpa using q))
          go_wp2_with fail
          refine HCALL.out.mono ?_
          rintro e w1 ⟨rfl, hb⟩
          have B1 := Lib.hid (HB.out.trans (hb.mono HB.out.size))
          have KK1 := Lib.hid (blk_later K1.out hb)
          have KK2 := Lib.hid (blk_later K2.out hb)
          clear hb r0 r1 r2 r3 r4 r5 r6 r7 r8 r9 r10 r11 f0
          go_wp2_with fail
          go_roundw
          case rel => exact ⟨5, by omega, by go_num, KK1, KK2, B1, HN2⟩
          case measure => simp [intOf]
        · have HE2 := Lib.hid (HE.out (by simpa using q))
          go_wp2_with fail
          refine HCALL.out.mono ?_
          rintro e w1 ⟨rfl, hb⟩
          have B1 := Lib.hid (HB.out.trans (hb.mono HB.out.size))
          clear hb r0 r1 r2 r3 r4 r5 r6 r7 r8 r9 r10 r11 f0
          go_wp2_with fail
          go_ret
          exact ⟨by rw [HE2.out]; rfl, B1.out⟩
      · have f0 := cell_c K2.out 5
        have HE := Lib.hid (fun h => HC.out 5 (by decide) HA.out h)
        have HN := Lib.hid (show pE 5 = 0 → ∀ j, j < 6 → pE j = 0 from fun h j hj => by
          rcases Nat.lt_or_ge j 5 with q | q
          · exact HA.out j q
          · obtain rfl : j = 5 := by omega
            exact h)
        have HCALL := Lib.hid (HP.out 5 (by decide) wr)
        generalize pE 5 = E at *
        cases q : (E != 0)
        · have HN2 := Lib.hid (HN.out (by simpa using q))
          go_wp2_with fail
          refine HCALL.out.mono ?_
          rintro e w1 ⟨rfl, hb⟩
          have B1 := Lib.hid (HB.out.trans (hb.mono HB.out.size))
          have KK1 := Lib.hid (blk_later K1.out hb)
          have KK2 := Lib.hid (blk_later K2.out hb)
          clear hb r0 r1 r2 r3 r4 r5 r6 r7 r8 r9 r10 r11 f0
          go_wp2_with fail
          go_roundw
          case rel => exact ⟨6, by omega, by go_num, KK1, KK2, B1, HN2⟩
          case measure => simp [intOf]
        · have HE2 := Lib.hid (HE.out (by simpa using q))
          go_wp2_with fail
          refine HCALL.out.mono ?_
          rintro e w1 ⟨rfl, hb⟩
          have B1 := Lib.hid (HB.out.trans (hb.mono HB.out.size))
          clear hb r0 r1 r2 r3 r4 r5 r6 r7 r8 r9 r10 r11 f0
          go_wp2_with fail
          go_ret
          exact ⟨by rw [HE2.out]; rfl, B1.out⟩
end Go.Proofs.YthflmdgfenojcaaGreatDoor
