/- The walk of MoneyReads. -/
import Derived.Test.YtadehobimlpmcaaDoorAwk
import Derived.Test.YtadehobimlpmcaaDoorOpen
namespace Go.Proofs.YtadehobimlpmcaaDoor
set_option linter.unusedVariables false
open Go.RowKit

theorem body_le (k n : Nat) (hk : k ≤ 3) (hn : n ≤ 4503599627370496) : (bodyD k n).length ≤ 20 := by
  have h1 := padD_length k n
  have h2 := nd_le n hn
  have h0 := padD_length 0 n
  unfold bodyD
  split
  · omega
  · rw [List.length_append, List.length_take, List.length_cons, List.length_drop]; omega
theorem fmtS_size (a : Int) (cur : ByteArray) : (fmtS a cur).size ≤ 1000 := by
  unfold fmtS
  split
  · rename_i h
    obtain ⟨hc, hi⟩ := monE_ok h
    obtain ⟨i1, i2⟩ := (inT_iff a).1 hi
    have hcz : cur.data.toList.length = 3 := curL_length ((curB_curL cur).symm.trans hc)
    have hb := body_le (expN cur.data.toList) a.natAbs (expN_le _) (by omega)
    show (fmtL a cur.data.toList).toArray.size ≤ 1000
    rw [List.size_toArray]
    unfold fmtL
    rw [List.length_append, List.length_append, List.length_cons, hcz]
    split <;> simp <;> omega
  · show 0 ≤ 1000; omega
/-- What Parse makes of what Format made. -/
theorem reads_back (a : Int) (cur : ByteArray) (h : monE a cur = 0) : parV (parR (fmtS a cur).data.toList) = .tuple #[.agg #[.int .i64 a, .string cur], .int .i64 0] := by
  obtain ⟨hc, hi⟩ := monE_ok h
  have : (fmtS a cur).data.toList = fmtL a cur.data.toList := by unfold fmtS; rw [if_pos h]
  rw [this, parse_fmt a cur.data.toList ((curB_curL cur).symm.trans hc) hi]; rfl
theorem reads_none (a : Int) (cur : ByteArray) (h : monE a cur ≠ 0) : fmtS a cur = ⟨#[]⟩ := by unfold fmtS; rw [if_neg h]
theorem reads_err (l : List UInt8) (h : (parR l).2.2 ≠ 0) : parV (parR l) = .tuple #[.agg #[.int .i64 0, .string ⟨#[]⟩], .int .i64 (parR l).2.2] := by
  have := (fmt_parse l).bad h
  unfold parV
  rw [this.1, this.2]
theorem reads_ok (s : ByteArray) (h : (parR s.data.toList).2.2 = 0) : ∃ A C, parV (parR s.data.toList) = .tuple #[.agg #[.int .i64 A, .string C], .int .i64 0] ∧ monE A C = 0 ∧ fmtS A C = s ∧ C.size = 3 := by
  obtain ⟨h1, h2, h3⟩ := (fmt_parse s.data.toList).ok h
  have hm : monE (parR s.data.toList).1 ⟨(parR s.data.toList).2.1.toArray⟩ = 0 := by
    unfold monE
    have e1 : curB ⟨(parR s.data.toList).2.1.toArray⟩ = true := by rw [curB_curL]; exact h1
    have e2 : inT (parR s.data.toList).1 = true := h2
    rw [e1, e2]; rfl
  refine ⟨(parR s.data.toList).1, ⟨(parR s.data.toList).2.1.toArray⟩, by unfold parV; rw [h], hm, ?_, ?_⟩
  · unfold fmtS
    rw [if_pos hm]
    apply ByteArray.ext
    apply Array.ext'
    exact h3
  · exact (show ((parR s.data.toList).2.1.toArray).size = 3 by rw [List.size_toArray]; exact curL_length h1)
theorem eq_zero (w : World) : (binOp .eql 23 (.agg #[.int .i64 0, .string ⟨#[]⟩]) (.agg #[.int .i64 0, .string ⟨#[]⟩])).run Tryd.prog w = .ok (.bool true) w := eq_same 0 ⟨#[]⟩ w
set_option maxRecDepth 100000 in
set_option maxHeartbeats 12800000 in
theorem moneyReads_walk (w : World) (hw : KW w) (_ : True) (x : Mny) (hx : (Lit.int .i64 x.a).wf = true ∧ x.s.size ≤ maxLen) (s : ByteArray) (hsz : s.size ≤ maxLen) :
    Calls Tryd.prog 6 #[x.val, .string s] w fun e w' => e = .returned (.bool true) ∧ Below w.heap.size w w' := by
  obtain ⟨a, c⟩ := x
  have hc : c.size ≤ maxLen := hx.2
  show Calls Tryd.prog 6 #[.agg #[.int .i64 a, .string c], .string s] w _
  have HI := Lib.hid (fun W hW => awake_any W hW)
  have HW := Lib.hid hw
  clear hx hw
  by_cases hbig : 100 < s.size
  · have hbig' : (100 : Int) < (s.size : Int) := by omega
    clear hc
    unfold maxLen at hsz
    go_enter Tryd.func6, Tryd.ntmps6
    go_wp2_with fail
    refine (HI.out _ (HW.out.below ((Below.refl _ _).alloc (Nat.le_refl _) _))).mono ?_
    rintro e w1 ⟨rfl, hb⟩
    have HB := Lib.hid (box1 hb).2.2
    clear hb
    go_wp2_with fail
    go_ret
    exact ⟨rfl, HB.out⟩
  · have hbig' : ¬ (100 : Int) < (s.size : Int) := by omega
    have hF := fun W (h : KW W) => fmt_any a c W h.1 h.2 hc
    unfold FmtPost at hF
    have hT := fun W (h : KW W) => par_any (fmtS a c) W h.1 (Nat.le_trans (fmtS_size a c) (by omega))
    have hP := fun W (h : KW W) => par_any s W h.1 (by omega)
    unfold ParPost at hT hP
    have HM := Lib.hid (fun W => mon_any a c W hc)
    clear hc hsz
    by_cases hm : monE a c = 0
    · by_cases hr : (parR s.data.toList).2.2 = 0
      · rw [reads_back a c hm] at hT
        rw [hm] at HM
        obtain ⟨T, hTe⟩ : ∃ T, fmtS a c = T := ⟨_, rfl⟩
        rw [hTe] at hF hT
        clear hTe hm
        have q1 := fun W => neq_same a c W
        obtain ⟨A, C, e1, e2, e3, e4⟩ := reads_ok s hr
        rw [e1] at hP
        have hG := fun W (h : KW W) => fmt_any A C W h.1 h.2 (by unfold maxLen; omega)
        unfold FmtPost at hG
        rw [e3] at hG
        have hN := fun W => mon_any A C W (by unfold maxLen; omega)
        rw [e2] at hN
        have HG := Lib.hid hG
        have HN := Lib.hid hN
        clear e1 e2 e3 e4 hG hN hr
        have ess : (s.toList == s.toList) = true := by simp
        have HF := Lib.hid hF
        have HT := Lib.hid hT
        have HP := Lib.hid hP
        clear hF hT hP
        go_enter Tryd.func6, Tryd.ntmps6
        go_wp2_with fail
        refine (HF.out _ (HW.out.below ((Below.refl _ _).alloc (Nat.le_refl _) _))).mono ?_
        rintro e w1 ⟨rfl, hb⟩
        obtain ⟨k, z1, hb1⟩ := box1 hb
        have KM := Lib.hid k
        have B1 := Lib.hid hb1
        clear hb hb1 k
        go_wp2_with fail
        refine (HT.out _ (HW.out.below B1.out)).mono ?_
        rintro e w2 ⟨rfl, hb⟩
        have KM := Lib.hid (blk_later KM.out hb)
        have B2 := Lib.hid (B1.out.trans (hb.mono B1.out.size))
        have z2 : w.heap.size < w2.heap.size := Nat.lt_of_lt_of_le z1 hb.size
        have m0 := cell_c KM.out 0
        have m1 := cell_c KM.out 1
        clear hb
        go_wp2_with fail
        refine (HM.out _).mono ?_
        rintro e w3 ⟨rfl, hb⟩
        obtain ⟨k, z3, hb1⟩ := box1 hb
        have KA := Lib.hid k
        have KM := Lib.hid (blk_later KM.out hb1)
        have B3 := Lib.hid (B2.out.trans (hb1.mono B2.out.size))
        clear m0 m1
        have m0 := cell_c KM.out 0
        have m1 := cell_c KM.out 1
        have a0 := cell_c KA.out 0
        have a1 := cell_c KA.out 1
        clear hb hb1 k
        go_wp2_with fail
        refine (HP.out _ (HW.out.below B3.out)).mono ?_
        rintro e w4 ⟨rfl, hb⟩
        have B4 := Lib.hid (B3.out.trans (hb.mono B3.out.size))
        clear hb m0 m1 a0 a1
        go_wp2_with fail
        refine (HN.out _).mono ?_
        rintro e w5 ⟨rfl, hb⟩
        obtain ⟨k, z5, hb1⟩ := box1 hb
        have KB := Lib.hid k
        have B5 := Lib.hid (B4.out.trans (hb1.mono B4.out.size))
        have b0 := cell_c KB.out 0
        have b1 := cell_c KB.out 1
        clear hb hb1 k
        go_wp2_with fail
        refine (HG.out _ (HW.out.below B5.out)).mono ?_
        rintro e w6 ⟨rfl, hb⟩
        have B6 := Lib.hid (B5.out.trans (hb.mono B5.out.size))
        clear hb b0 b1
        go_wp2_with fail
        refine (HI.out _ (HW.out.below B6.out)).mono ?_
        rintro e w7 ⟨rfl, hb⟩
        have B7 := Lib.hid (B6.out.trans (hb.mono B6.out.size))
        clear hb
        go_wp2_with fail
        go_ret
        exact ⟨rfl, B7.out⟩
      · rw [reads_back a c hm] at hT
        rw [hm] at HM
        obtain ⟨T, hTe⟩ : ∃ T, fmtS a c = T := ⟨_, rfl⟩
        rw [hTe] at hF hT
        clear hTe hm
        have q1 := fun W => neq_same a c W
        rw [reads_err _ hr] at hP
        have hr' : ((parR s.data.toList).2.2 != 0) = true := bne_iff_ne.2 hr
        generalize (parR s.data.toList).2.2 = FE at *
        clear hr
        have q2 := fun W => eq_zero W
        have HF := Lib.hid hF
        have HT := Lib.hid hT
        have HP := Lib.hid hP
        clear hF hT hP
        go_enter Tryd.func6, Tryd.ntmps6
        go_wp2_with fail
        refine (HF.out _ (HW.out.below ((Below.refl _ _).alloc (Nat.le_refl _) _))).mono ?_
        rintro e w1 ⟨rfl, hb⟩
        obtain ⟨k, z1, hb1⟩ := box1 hb
        have KM := Lib.hid k
        have B1 := Lib.hid hb1
        clear hb hb1 k
        go_wp2_with fail
        refine (HT.out _ (HW.out.below B1.out)).mono ?_
        rintro e w2 ⟨rfl, hb⟩
        have KM := Lib.hid (blk_later KM.out hb)
        have B2 := Lib.hid (B1.out.trans (hb.mono B1.out.size))
        have z2 : w.heap.size < w2.heap.size := Nat.lt_of_lt_of_le z1 hb.size
        have m0 := cell_c KM.out 0
        have m1 := cell_c KM.out 1
        clear hb
        go_wp2_with fail
        refine (HM.out _).mono ?_
        rintro e w3 ⟨rfl, hb⟩
        obtain ⟨k, z3, hb1⟩ := box1 hb
        have KA := Lib.hid k
        have KM := Lib.hid (blk_later KM.out hb1)
        have B3 := Lib.hid (B2.out.trans (hb1.mono B2.out.size))
        clear m0 m1
        have m0 := cell_c KM.out 0
        have m1 := cell_c KM.out 1
        have a0 := cell_c KA.out 0
        have a1 := cell_c KA.out 1
        clear hb hb1 k
        go_wp2_with fail
        refine (HP.out _ (HW.out.below B3.out)).mono ?_
        rintro e w4 ⟨rfl, hb⟩
        have B4 := Lib.hid (B3.out.trans (hb.mono B3.out.size))
        clear hb m0 m1 a0 a1
        go_wp2_with fail
        refine (HI.out _ (HW.out.below (B4.out.alloc B4.out.size _))).mono ?_
        rintro e w5 ⟨rfl, hb⟩
        have B5 := Lib.hid (B4.out.trans ((box1 hb).2.2.mono B4.out.size))
        clear hb
        go_wp2_with fail
        go_ret
        exact ⟨rfl, B5.out⟩
    · by_cases hr : (parR s.data.toList).2.2 = 0
      · rw [reads_none a c hm] at hF hT
        have hp0 : parV (parR (ByteArray.mk #[]).data.toList) = .tuple #[.agg #[.int .i64 0, .string ⟨#[]⟩], .int .i64 1] := rfl
        rw [hp0] at hT
        clear hp0
        have hm' : (monE a c != 0) = true := bne_iff_ne.2 hm
        generalize monE a c = ME at *
        clear hm
        obtain ⟨A, C, e1, e2, e3, e4⟩ := reads_ok s hr
        rw [e1] at hP
        have hG := fun W (h : KW W) => fmt_any A C W h.1 h.2 (by unfold maxLen; omega)
        unfold FmtPost at hG
        rw [e3] at hG
        have hN := fun W => mon_any A C W (by unfold maxLen; omega)
        rw [e2] at hN
        have HG := Lib.hid hG
        have HN := Lib.hid hN
        clear e1 e2 e3 e4 hG hN hr
        have ess : (s.toList == s.toList) = true := by simp
        have HF := Lib.hid hF
        have HT := Lib.hid hT
        have HP := Lib.hid hP
        clear hF hT hP
        go_enter Tryd.func6, Tryd.ntmps6
        go_wp2_with fail
        refine (HF.out _ (HW.out.below ((Below.refl _ _).alloc (Nat.le_refl _) _))).mono ?_
        rintro e w1 ⟨rfl, hb⟩
        obtain ⟨k, z1, hb1⟩ := box1 hb
        have KM := Lib.hid k
        have B1 := Lib.hid hb1
        clear hb hb1 k
        go_wp2_with fail
        refine (HT.out _ (HW.out.below B1.out)).mono ?_
        rintro e w2 ⟨rfl, hb⟩
        have KM := Lib.hid (blk_later KM.out hb)
        have B2 := Lib.hid (B1.out.trans (hb.mono B1.out.size))
        have z2 : w.heap.size < w2.heap.size := Nat.lt_of_lt_of_le z1 hb.size
        have m0 := cell_c KM.out 0
        have m1 := cell_c KM.out 1
        clear hb
        go_wp2_with fail
        refine (HM.out _).mono ?_
        rintro e w3 ⟨rfl, hb⟩
        obtain ⟨k, z3, hb1⟩ := box1 hb
        have KA := Lib.hid k
        have KM := Lib.hid (blk_later KM.out hb1)
        have B3 := Lib.hid (B2.out.trans (hb1.mono B2.out.size))
        clear m0 m1
        have m0 := cell_c KM.out 0
        have m1 := cell_c KM.out 1
        have a0 := cell_c KA.out 0
        have a1 := cell_c KA.out 1
        clear hb hb1 k
        go_wp2_with fail
        refine (HP.out _ (HW.out.below B3.out)).mono ?_
        rintro e w4 ⟨rfl, hb⟩
        have B4 := Lib.hid (B3.out.trans (hb.mono B3.out.size))
        clear hb m0 m1 a0 a1
        go_wp2_with fail
        refine (HN.out _).mono ?_
        rintro e w5 ⟨rfl, hb⟩
        obtain ⟨k, z5, hb1⟩ := box1 hb
        have KB := Lib.hid k
        have B5 := Lib.hid (B4.out.trans (hb1.mono B4.out.size))
        have b0 := cell_c KB.out 0
        have b1 := cell_c KB.out 1
        clear hb hb1 k
        go_wp2_with fail
        refine (HG.out _ (HW.out.below B5.out)).mono ?_
        rintro e w6 ⟨rfl, hb⟩
        have B6 := Lib.hid (B5.out.trans (hb.mono B5.out.size))
        clear hb b0 b1
        go_wp2_with fail
        refine (HI.out _ (HW.out.below B6.out)).mono ?_
        rintro e w7 ⟨rfl, hb⟩
        have B7 := Lib.hid (B6.out.trans (hb.mono B6.out.size))
        clear hb
        go_wp2_with fail
        go_ret
        exact ⟨rfl, B7.out⟩
      · rw [reads_none a c hm] at hF hT
        have hp0 : parV (parR (ByteArray.mk #[]).data.toList) = .tuple #[.agg #[.int .i64 0, .string ⟨#[]⟩], .int .i64 1] := rfl
        rw [hp0] at hT
        clear hp0
        have hm' : (monE a c != 0) = true := bne_iff_ne.2 hm
        generalize monE a c = ME at *
        clear hm
        rw [reads_err _ hr] at hP
        have hr' : ((parR s.data.toList).2.2 != 0) = true := bne_iff_ne.2 hr
        generalize (parR s.data.toList).2.2 = FE at *
        clear hr
        have q2 := fun W => eq_zero W
        have HF := Lib.hid hF
        have HT := Lib.hid hT
        have HP := Lib.hid hP
        clear hF hT hP
        go_enter Tryd.func6, Tryd.ntmps6
        go_wp2_with fail
        refine (HF.out _ (HW.out.below ((Below.refl _ _).alloc (Nat.le_refl _) _))).mono ?_
        rintro e w1 ⟨rfl, hb⟩
        obtain ⟨k, z1, hb1⟩ := box1 hb
        have KM := Lib.hid k
        have B1 := Lib.hid hb1
        clear hb hb1 k
        go_wp2_with fail
        refine (HT.out _ (HW.out.below B1.out)).mono ?_
        rintro e w2 ⟨rfl, hb⟩
        have KM := Lib.hid (blk_later KM.out hb)
        have B2 := Lib.hid (B1.out.trans (hb.mono B1.out.size))
        have z2 : w.heap.size < w2.heap.size := Nat.lt_of_lt_of_le z1 hb.size
        have m0 := cell_c KM.out 0
        have m1 := cell_c KM.out 1
        clear hb
        go_wp2_with fail
        refine (HM.out _).mono ?_
        rintro e w3 ⟨rfl, hb⟩
        obtain ⟨k, z3, hb1⟩ := box1 hb
        have KA := Lib.hid k
        have KM := Lib.hid (blk_later KM.out hb1)
        have B3 := Lib.hid (B2.out.trans (hb1.mono B2.out.size))
        clear m0 m1
        have m0 := cell_c KM.out 0
        have m1 := cell_c KM.out 1
        have a0 := cell_c KA.out 0
        have a1 := cell_c KA.out 1
        clear hb hb1 k
        go_wp2_with fail
        refine (HP.out _ (HW.out.below B3.out)).mono ?_
        rintro e w4 ⟨rfl, hb⟩
        have B4 := Lib.hid (B3.out.trans (hb.mono B3.out.size))
        clear hb m0 m1 a0 a1
        go_wp2_with fail
        refine (HI.out _ (HW.out.below (B4.out.alloc B4.out.size _))).mono ?_
        rintro e w5 ⟨rfl, hb⟩
        have B5 := Lib.hid (B4.out.trans ((box1 hb).2.2.mono B4.out.size))
        clear hb
        go_wp2_with fail
        go_ret
        exact ⟨rfl, B5.out⟩
end Go.Proofs.YtadehobimlpmcaaDoor
