/- The walk of the law's awake; Decode of what Encode wrote. -/
import Derived.Test.YthflmdgfenojcaaGreatDoorDcw
import Derived.Test.YthflmdgfenojcaaGreatDoorFew
namespace Go.Proofs.YthflmdgfenojcaaGreatDoor
set_option linter.unusedVariables false
open Go.RowKit Go.Sort Go.Maps

def b0 : Bat := ⟨⟨#[70, 50, 48, 45, 49]⟩, ⟨#[115, 104, 111, 112]⟩, 20, []⟩
theorem ito0 : itoS 0 = ⟨#[48]⟩ := by simp [itoS, Lib.itoa, Lib.decDigits]
theorem ito20 : itoS 20 = ⟨#[50, 48]⟩ := by simp [itoS, Lib.itoa, Lib.decDigits]
theorem body_b0 : bodyL b0 = [72, 124, 70, 50, 48, 45, 49, 124, 115, 104, 111, 112, 124, 50, 48, 10, 84, 124, 48, 124, 48, 124, 48, 124, 48, 10] := by
  have e1 : (C7.totB (cardsOf b0.rs) : Int) = 0 := rfl
  have e2 : debS b0.rs b0.rs.length = 0 := rfl
  have e3 : creS b0.rs b0.rs.length = 0 := rfl
  have e4 : (b0.rs.length : Int) = 0 := rfl
  have e5 : b0.dt = 20 := rfl
  unfold bodyL bodyK hdrL trlL
  rw [e1, e2, e3, e4, e5, ito0, ito20]
  rfl
theorem chk_b0 : chkB b0 = 0 := by kernel_rfl
theorem enc_b0 : (encB b0).data.toList = [72, 124, 70, 50, 48, 45, 49, 124, 115, 104, 111, 112, 124, 50, 48, 10, 84, 124, 48, 124, 48, 124, 48, 124, 48, 10, 67, 124] ++ (text8 (C7.crcOf (bodyL b0)) ++ [10]) := by
  rw [enc_data chk_b0, textL, chkL_form]
  conv => lhs; arg 1; rw [body_b0]
  rfl
theorem enc_b0_size : (encB b0).size = 37 := by
  have h := congrArg List.length enc_b0
  rw [List.length_append, List.length_append, text8_len] at h
  exact h
theorem enc_b0_pref : Lib.hasPrefix (encB b0).data.toList [72, 124, 70, 50, 48, 45, 49, 124, 115, 104, 111, 112, 124, 50, 48, 10, 84, 124, 48, 124, 48, 124, 48, 124, 48, 10, 67, 124] = true := by
  unfold Lib.hasPrefix
  rw [List.isPrefixOf_iff_prefix, enc_b0]
  exact ⟨_, rfl⟩
def DceP (b : Bat) (w : World) (e : Ending) (w' : World) : Prop :=
  ∃ A c A' c', e = .returned (.tuple #[.agg #[.string b.id, .string b.sd, .int .i64 b.dt, .slice A b.rs.length c], .slice A' 0 c', .int .i64 0]) ∧ IsRow w' A (b.rs.flatMap recF) ∧ b.rs.length ≤ c ∧ Below w.heap.size w w'
/-- What was written is read. -/
theorem dce_any (b : Bat) (w : World) (hw : BW w) (h : chkB b = 0) (hs : (encB b).size ≤ 1000000) : Calls Tryz.prog 49 #[.string (encB b)] w (DceP b w) := by
  obtain ⟨h1, h2, h3⟩ := dec_of_enc h
  refine (bdc_any (encB b) w hw hs).mono ?_
  rintro e w' ⟨v8, v9, rfl, o8, o9, hb⟩
  rw [h2] at o8
  rw [h3] at o9
  obtain ⟨A, c, rfl, hr, hc⟩ := own_form o8
  obtain ⟨A', c', rfl, hr', hc'⟩ := own_form o9
  exact ⟨A, c, A', c', by rw [h1, h2]; rfl, hr, hc, hb⟩
set_option maxRecDepth 100000 in
set_option maxHeartbeats 12800000 in
theorem awb_any (w : World) (hw : BW w) : Calls Tryz.prog 42 #[] w fun e w' => e = .returned (.bool true) ∧ Below w.heap.size w w' := by
  have HKW := Lib.hid hw
  have HEN : Hid (∀ W, BW W → Calls Tryz.prog 43 #[batV b0 none 0] W (BenPost b0 W)) := Lib.hid (fun W hW => benc_any none 0 b0 W hW (.inl rfl) ⟨by decide, by decide, fun x hx => by cases hx⟩ (fun x hx => by cases hx) (by decide) (by decide) (by decide) (by decide))
  have HDC := Lib.hid (fun W hW => dce_any b0 W hW chk_b0 (by rw [enc_b0_size]; omega))
  have HSA := Lib.hid (fun A c W h => same_any none A 0 c b0 W (.inl rfl) h (by decide))
  have HPF := Lib.hid (fun W => Tryz.strings_HasPrefix (encB b0) ⟨#[72, 124, 70, 50, 48, 45, 49, 124, 115, 104, 111, 112, 124, 50, 48, 10, 84, 124, 48, 124, 48, 124, 48, 124, 48, 10, 67, 124]⟩ W)
  rw [show (⟨#[72, 124, 70, 50, 48, 45, 49, 124, 115, 104, 111, 112, 124, 50, 48, 10, 84, 124, 48, 124, 48, 124, 48, 124, 48, 10, 67, 124]⟩ : ByteArray).data.toList = [72, 124, 70, 50, 48, 45, 49, 124, 115, 104, 111, 112, 124, 50, 48, 10, 84, 124, 48, 124, 48, 124, 48, 124, 48, 10, 67, 124] from rfl, enc_b0_pref] at HPF
  have hsz := enc_b0_size
  unfold BenPost batV at HEN
  rw [chk_b0] at HEN
  unfold DceP at HDC
  unfold BPost batV at HSA
  generalize encB b0 = S at *
  unfold b0 at HEN HDC HSA
  dsimp only [List.length_nil] at HEN HDC HSA
  clear hw
  have HK0 := Lib.hid (heap_alloc_new w (.cells #[.string ⟨#[70, 50, 48, 45, 49]⟩, .string ⟨#[115, 104, 111, 112]⟩, .int .i64 20, .slice none 0 0] 61))
  go_enter Tryz.func42, Tryz.ntmps42
  go_wp2_with fail
  refine (HEN.out _ (HKW.out.below (bx _ _))).mono ?_
  rintro e w1 ⟨rfl, hb⟩
  have HB := Lib.hid ((bx w (.cells #[.string ⟨#[70, 50, 48, 45, 49]⟩, .string ⟨#[115, 104, 111, 112]⟩, .int .i64 20, .slice none 0 0] 61)).trans (hb.mono (bx w _).size))
  have HK := Lib.hid (blk_later HK0.out hb)
  clear hb HK0
  go_wp2_with fail
  refine (HDC.out _ (HKW.out.below HB.out)).mono ?_
  rintro e w2 ⟨A, c, A', c', rfl, hr, hc, hb⟩
  have HB := Lib.hid (HB.out.trans (hb.mono HB.out.size))
  have HK := Lib.hid (blk_later HK.out hb)
  have HR := Lib.hid hr
  clear hb hr hc
  have HX := Lib.hid (bx w2 (.cells #[.string ⟨#[70, 50, 48, 45, 49]⟩, .string ⟨#[115, 104, 111, 112]⟩, .int .i64 20, .slice A 0 c] 61))
  have HB2 := Lib.hid (HB.out.trans (HX.out.mono HB.out.size))
  have k0 := cell_c (blk_later HK.out HX.out) 0
  have k1 := cell_c (blk_later HK.out HX.out) 1
  have k2 := cell_c (blk_later HK.out HX.out) 2
  have k3 := cell_c (blk_later HK.out HX.out) 3
  simp at k0 k1 k2 k3
  go_wp2_with fail
  refine (HPF.out _).mono ?_
  rintro e w3 ⟨rfl, rfl⟩
  go_wp2_with fail
  refine (HSA.out A c _ (HR.out.below HX.out)).mono ?_
  rintro e w4 ⟨rfl, hb⟩
  have HB3 := Lib.hid (HB2.out.trans (hb.mono HB2.out.size))
  clear hb
  go_wp2_with fail
  go_ret
  exact ⟨rfl, HB3.out⟩
end Go.Proofs.YthflmdgfenojcaaGreatDoor
