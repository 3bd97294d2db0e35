/- The walk of Format. -/
import Derived.Test.YtadehobimlpmcaaDoorPar
import Derived.Test.YtadehobimlpmcaaDoorNum
import Derived.Laws.Concat
namespace Go.Proofs.YtadehobimlpmcaaDoor
set_option linter.unusedVariables false
open Go.RowKit

def fmtS (a : Int) (cur : ByteArray) : ByteArray := if monE a cur = 0 then ⟨(fmtL a cur.data.toList).toArray⟩ else ⟨#[]⟩
def FmtPost (a : Int) (cur : ByteArray) (w : World) (e : Ending) (w' : World) : Prop := e = .returned (.string (fmtS a cur)) ∧ Below w.heap.size w w'
theorem rep_zeros (c : Nat) : Lib.repeatL (ByteArray.mk #[48]).data.toList c = List.replicate c 48 := by
  induction c with
  | zero => rfl
  | succ c ih =>
    show [48] ++ Lib.repeatL _ c = _
    rw [ih, List.replicate_succ]; rfl
theorem nd_le (n : Nat) (h : n ≤ 4503599627370496) : Lib.nDigits n ≤ 16 := by
  rcases Nat.lt_or_ge 16 (Lib.nDigits n) with q | q
  · exfalso
    obtain ⟨k, hk⟩ : ∃ k, Lib.nDigits n = k + 1 := ⟨Lib.nDigits n - 1, by omega⟩
    have : 10 ^ k ≤ n := by
      rcases Nat.lt_or_ge n (10 ^ k) with q2 | q2
      · exfalso
        have h3 : ∀ (k u : Nat), 1 ≤ k → u < 10 ^ k → Lib.nDigits u ≤ k := by
          intro k
          induction k with
          | zero => intro u h; omega
          | succ k ih =>
            intro u _ hu
            by_cases h9 : u < 10
            · rw [Lib.nDigits_small h9]; omega
            · rw [Lib.nDigits_big h9]
              rcases Nat.eq_zero_or_pos k with z | z
              · subst z; simp at hu; omega
              · have := ih (u / 10) z (by rw [Nat.pow_succ] at hu; omega)
                omega
        have := h3 k n (by omega) q2
        omega
      · exact q2
    have h2 : 10 ^ 16 ≤ 10 ^ k := Nat.pow_le_pow_right (by omega) (by omega)
    omega
  · exact q
theorem fmt_pad {k n : Nat} {D0 D : ByteArray} (h0 : D0.data.toList = Lib.decDigits n) (h : (Lib.nDigits n ≤ k ∧ D.data.toList = List.replicate (k + 1 - Lib.nDigits n) 48 ++ D0.data.toList) ∨ (k < Lib.nDigits n ∧ D = D0)) : D.data.toList = padD k n := by
  unfold padD
  rcases h with ⟨_, h⟩ | ⟨h1, rfl⟩
  · rw [h, h0]
  · rw [h0, show k + 1 - Lib.nDigits n = 0 by omega]; rfl
set_option maxHeartbeats 800000 in
theorem fmt_bad (a : Int) (cur : ByteArray) (w : World) (hs : cur.size ≤ maxLen) (h : monE a cur ≠ 0) : Calls Tryd.prog 17 #[.agg #[.int .i64 a, .string cur]] w (FmtPost a cur w) := by
  have HM := Lib.hid (fun W => mon_any a cur W hs)
  have HV := Lib.hid (show fmtS a cur = ⟨#[]⟩ by unfold fmtS; rw [if_neg h])
  have h' : (monE a cur != 0) = true := bne_iff_ne.2 h
  generalize monE a cur = ME at *
  clear h hs
  go_enter Tryd.func17, Tryd.ntmps17
  go_wp2_with fail
  refine (HM.out _).mono ?_
  rintro e w1 ⟨rfl, hb⟩
  have HB1 := Lib.hid (box1 hb).2.2
  clear hb
  go_wp2_with fail
  go_ret
  exact ⟨by rw [HV.out]; rfl, HB1.out⟩
set_option maxHeartbeats 12800000 in
theorem fmt_ok (a : Int) (cur : ByteArray) (w : World) (hw : DecW w) (ht : TabW w) (hm : monE a cur = 0) : Calls Tryd.prog 17 #[.agg #[.int .i64 a, .string cur]] w (FmtPost a cur w) := by
  obtain ⟨hcu, hin⟩ := monE_ok hm
  obtain ⟨i1, i2⟩ := (inT_iff a).1 hin
  have hcz : cur.size = 3 := by
    have := curL_length ((curB_curL cur).symm.trans hcu)
    simpa using this
  have hs : cur.size ≤ maxLen := by unfold maxLen; omega
  have HM := Lib.hid (fun W => mon_any a cur W hs)
  rw [hm] at HM
  have HV := Lib.hid (show fmtS a cur = ⟨(fmtL a cur.data.toList).toArray⟩ by unfold fmtS; rw [if_pos hm])
  have hfl : fmtL a cur.data.toList = (if a < 0 then [45] else []) ++ bodyD (expS cur) a.natAbs ++ 32 :: cur.data.toList := rfl
  have HE := Lib.hid (fun W hW => exp_yes cur W hW hs hcu)
  have HA := Lib.hid (fun W => mag_any a W (by omega) (by omega))
  have hk3 : expS cur ≤ 3 := expN_le _
  have hn16 := nd_le a.natAbs (by omega)
  have hn1 := Lib.nDigits_pos a.natAbs
  have hpl := padD_length (expS cur) a.natAbs
  have hFU := fun W hW => fuint_any a.natAbs W hW (by omega)
  generalize expS cur = EX at *
  generalize a.natAbs = n at *
  obtain ⟨D0, hD0⟩ : ∃ D0 : ByteArray, (⟨(Lib.decDigits n).toArray⟩ : ByteArray) = D0 := ⟨_, rfl⟩
  rw [hD0] at hFU
  have hd0 : D0.data.toList = Lib.decDigits n := by rw [← hD0]
  have hz0 : D0.size = Lib.nDigits n := by
    have : D0.data.toList.length = D0.size := by simp
    rw [← this, hd0, Lib.decDigits_length]
  have HFU := Lib.hid hFU
  have hcle : cur.size ≤ 3 := by omega
  have hD0le : D0.size ≤ 16 := by omega
  have HW := Lib.hid hw
  have HT := Lib.hid ht
  have hpad := fun D h => fmt_pad (k := EX) (D := D) hd0 h
  rw [← hz0] at hpad hpl
  clear hFU hm hcu hin hs hD0 hw ht
  by_cases hbig : EX < D0.size
  · by_cases hpos0 : 0 < EX
    · by_cases hneg : a < 0
      · obtain ⟨D, hDD⟩ : ∃ D, D = D0 := ⟨_, rfl⟩
        have hpd := hpad D (.inr ⟨by omega, hDD⟩)
        subst hDD
        have hDz : D.size ≤ 16 := hD0le
        have hDE : (if EX = 0 then 0 else EX) < D.size := by split <;> omega
        have hnle : ¬ (D.size : Int) ≤ (EX : Int) := by omega
        obtain ⟨u, hu⟩ : ∃ u, D.size = u + EX := ⟨D.size - EX, by omega⟩
        have huI : (D.size : Int) - (EX : Int) = (u : Int) := by omega
        obtain ⟨U, hU⟩ : ∃ U, D.extract 0 u = U := ⟨_, rfl⟩
        obtain ⟨F, hF⟩ : ∃ F, D.extract u D.size = F := ⟨_, rfl⟩
        obtain ⟨UP, hUP⟩ : ∃ UP, U ++ (ByteArray.mk #[46]) = UP := ⟨_, rfl⟩
        obtain ⟨B, hB⟩ : ∃ B, UP ++ F = B := ⟨_, rfl⟩
        have hUz : U.size = u := by rw [← hU]; simp; omega
        have hFz : F.size = EX := by rw [← hF]; simp; omega
        have hUPz : UP.size = u + 1 := by rw [← hUP, ByteArray.size_append, hUz]; rfl
        have hBz : B.size = u + 1 + EX := by rw [← hB, ByteArray.size_append, hUPz, hFz]
        have hBd : B.data.toList = bodyD EX n := by
          unfold bodyD
          rw [if_neg (by omega), ← hpd, ← hB, ← hUP, ByteArray.data_append, ByteArray.data_append, Array.toList_append, Array.toList_append, ← hU, ← hF, ext_take, ext_drop, show D.data.toList.length = D.size by simp, show D.size - EX = u by omega, List.append_assoc]; rfl
        have cat1 := fun W => run_string_add_sum (P := Tryd.prog) (w := W) U (ByteArray.mk #[46]) (by show U.size + 1 ≤ _; omega)
        have cat2 := fun W => run_string_add_sum (P := Tryd.prog) (w := W) UP F (by omega)
        rw [hUP] at cat1
        rw [hB] at cat2
        have hpos : (0 : Int) < (EX : Int) := by omega
        have hu0 : (0 : Int) ≤ (u : Int) := by omega
        have hu1 : (u : Int) ≤ (D.size : Int) := by omega
        have hBle : B.size ≤ 100 := by omega
        clear hUz hFz hUPz hBz hu
        obtain ⟨T, hT⟩ : ∃ T, (ByteArray.mk #[45]) ++ B = T := ⟨_, rfl⟩
        have hTd : T.data.toList = (if a < 0 then [45] else []) ++ bodyD EX n := by rw [if_pos hneg, ← hT, ByteArray.data_append, Array.toList_append, hBd]
        have hTle : T.size ≤ 101 := by rw [← hT, ByteArray.size_append]; show 1 + _ ≤ _; omega
        obtain ⟨T1, hT1⟩ : ∃ T1, T ++ (ByteArray.mk #[32]) = T1 := ⟨_, rfl⟩
        have hT1le : T1.size ≤ 102 := by rw [← hT1, ByteArray.size_append]; show _ + 1 ≤ _; omega
        obtain ⟨R, hR⟩ : ∃ R, T1 ++ cur = R := ⟨_, rfl⟩
        have HR : Hid (fmtS a cur = R) := by
          show _ = _
          rw [HV.out, hfl, ← hTd]
          apply ByteArray.ext
          apply Array.ext'
          show _ = R.data.toList
          rw [← hR, ← hT1, ByteArray.data_append, ByteArray.data_append, Array.toList_append, Array.toList_append, List.append_assoc]; rfl
        clear hTd hBd hpd hfl hpad hd0 hz0 hpl hn1 hn16 hcz
        clear hDE
        go_enter Tryd.func17, Tryd.ntmps17
        go_wp2_with fail
        refine (HM.out _).mono ?_
        rintro e w1 ⟨rfl, hb⟩
        obtain ⟨k1, hz, hb1⟩ := box1 hb
        have c0 := cell_c k1 0
        have c1 := cell_c k1 1
        have HK1 := Lib.hid k1
        have HB1 := Lib.hid hb1
        clear hb k1 hb1
        go_wp2_with fail
        refine (HE.out _ (HW.out.below HB1.out)).mono ?_
        rintro e w2 ⟨rfl, hb⟩
        have HK2 := Lib.hid (blk_later HK1.out hb)
        have c0 := cell_c HK2.out 0
        have c1 := cell_c HK2.out 1
        have HB2 := Lib.hid (HB1.out.trans (hb.mono HB1.out.size))
        clear hb
        go_wp2_with fail
        refine (HA.out _).mono ?_
        rintro e w3 ⟨rfl, rfl⟩
        go_wp2_with fail
        refine (HFU.out _ (HT.out.below HB2.out)).mono ?_
        rintro e w3 ⟨rfl, hb⟩
        have HK3 := Lib.hid (blk_later HK2.out hb)
        have c0 := cell_c HK3.out 0
        have c1 := cell_c HK3.out 1
        have HB3 := Lib.hid (HB2.out.trans (hb.mono HB2.out.size))
        clear hb
        go_wp2_with fail
        go_quiet (fail)
        go_wp2_with fail
        go_ret
        exact ⟨by rw [HR.out]; rfl, dNb HB3.out _⟩
      · obtain ⟨D, hDD⟩ : ∃ D, D = D0 := ⟨_, rfl⟩
        have hpd := hpad D (.inr ⟨by omega, hDD⟩)
        subst hDD
        have hDz : D.size ≤ 16 := hD0le
        have hDE : (if EX = 0 then 0 else EX) < D.size := by split <;> omega
        have hnle : ¬ (D.size : Int) ≤ (EX : Int) := by omega
        obtain ⟨u, hu⟩ : ∃ u, D.size = u + EX := ⟨D.size - EX, by omega⟩
        have huI : (D.size : Int) - (EX : Int) = (u : Int) := by omega
        obtain ⟨U, hU⟩ : ∃ U, D.extract 0 u = U := ⟨_, rfl⟩
        obtain ⟨F, hF⟩ : ∃ F, D.extract u D.size = F := ⟨_, rfl⟩
        obtain ⟨UP, hUP⟩ : ∃ UP, U ++ (ByteArray.mk #[46]) = UP := ⟨_, rfl⟩
        obtain ⟨B, hB⟩ : ∃ B, UP ++ F = B := ⟨_, rfl⟩
        have hUz : U.size = u := by rw [← hU]; simp; omega
        have hFz : F.size = EX := by rw [← hF]; simp; omega
        have hUPz : UP.size = u + 1 := by rw [← hUP, ByteArray.size_append, hUz]; rfl
        have hBz : B.size = u + 1 + EX := by rw [← hB, ByteArray.size_append, hUPz, hFz]
        have hBd : B.data.toList = bodyD EX n := by
          unfold bodyD
          rw [if_neg (by omega), ← hpd, ← hB, ← hUP, ByteArray.data_append, ByteArray.data_append, Array.toList_append, Array.toList_append, ← hU, ← hF, ext_take, ext_drop, show D.data.toList.length = D.size by simp, show D.size - EX = u by omega, List.append_assoc]; rfl
        have cat1 := fun W => run_string_add_sum (P := Tryd.prog) (w := W) U (ByteArray.mk #[46]) (by show U.size + 1 ≤ _; omega)
        have cat2 := fun W => run_string_add_sum (P := Tryd.prog) (w := W) UP F (by omega)
        rw [hUP] at cat1
        rw [hB] at cat2
        have hpos : (0 : Int) < (EX : Int) := by omega
        have hu0 : (0 : Int) ≤ (u : Int) := by omega
        have hu1 : (u : Int) ≤ (D.size : Int) := by omega
        have hBle : B.size ≤ 100 := by omega
        clear hUz hFz hUPz hBz hu
        obtain ⟨T, hTT⟩ : ∃ T, T = B := ⟨_, rfl⟩
        have hTd : T.data.toList = (if a < 0 then [45] else []) ++ bodyD EX n := by rw [if_neg hneg, hTT, hBd]; rfl
        have hTle : T.size ≤ 101 := by rw [hTT]; omega
        subst hTT
        obtain ⟨T1, hT1⟩ : ∃ T1, T ++ (ByteArray.mk #[32]) = T1 := ⟨_, rfl⟩
        have hT1le : T1.size ≤ 102 := by rw [← hT1, ByteArray.size_append]; show _ + 1 ≤ _; omega
        obtain ⟨R, hR⟩ : ∃ R, T1 ++ cur = R := ⟨_, rfl⟩
        have HR : Hid (fmtS a cur = R) := by
          show _ = _
          rw [HV.out, hfl, ← hTd]
          apply ByteArray.ext
          apply Array.ext'
          show _ = R.data.toList
          rw [← hR, ← hT1, ByteArray.data_append, ByteArray.data_append, Array.toList_append, Array.toList_append, List.append_assoc]; rfl
        clear hTd hBd hpd hfl hpad hd0 hz0 hpl hn1 hn16 hcz
        clear hDE
        go_enter Tryd.func17, Tryd.ntmps17
        go_wp2_with fail
        refine (HM.out _).mono ?_
        rintro e w1 ⟨rfl, hb⟩
        obtain ⟨k1, hz, hb1⟩ := box1 hb
        have c0 := cell_c k1 0
        have c1 := cell_c k1 1
        have HK1 := Lib.hid k1
        have HB1 := Lib.hid hb1
        clear hb k1 hb1
        go_wp2_with fail
        refine (HE.out _ (HW.out.below HB1.out)).mono ?_
        rintro e w2 ⟨rfl, hb⟩
        have HK2 := Lib.hid (blk_later HK1.out hb)
        have c0 := cell_c HK2.out 0
        have c1 := cell_c HK2.out 1
        have HB2 := Lib.hid (HB1.out.trans (hb.mono HB1.out.size))
        clear hb
        go_wp2_with fail
        refine (HA.out _).mono ?_
        rintro e w3 ⟨rfl, rfl⟩
        go_wp2_with fail
        refine (HFU.out _ (HT.out.below HB2.out)).mono ?_
        rintro e w3 ⟨rfl, hb⟩
        have HK3 := Lib.hid (blk_later HK2.out hb)
        have c0 := cell_c HK3.out 0
        have c1 := cell_c HK3.out 1
        have HB3 := Lib.hid (HB2.out.trans (hb.mono HB2.out.size))
        clear hb
        go_wp2_with fail
        go_quiet (fail)
        go_wp2_with fail
        go_ret
        exact ⟨by rw [HR.out]; rfl, dNb HB3.out _⟩
    · by_cases hneg : a < 0
      · obtain ⟨D, hDD⟩ : ∃ D, D = D0 := ⟨_, rfl⟩
        have hpd := hpad D (.inr ⟨by omega, hDD⟩)
        subst hDD
        have hDz : D.size ≤ 16 := hD0le
        have hDE : (if EX = 0 then 0 else EX) < D.size := by split <;> omega
        have hnle : ¬ (D.size : Int) ≤ (EX : Int) := by omega
        obtain ⟨B, hBB⟩ : ∃ B, B = D := ⟨_, rfl⟩
        have hBd : B.data.toList = bodyD EX n := by unfold bodyD; rw [if_pos (by omega), hBB, hpd, show EX = 0 by omega]
        have hpos : ¬ (0 : Int) < (EX : Int) := by omega
        have hBle : B.size ≤ 100 := by rw [hBB]; omega
        subst hBB
        obtain ⟨T, hT⟩ : ∃ T, (ByteArray.mk #[45]) ++ B = T := ⟨_, rfl⟩
        have hTd : T.data.toList = (if a < 0 then [45] else []) ++ bodyD EX n := by rw [if_pos hneg, ← hT, ByteArray.data_append, Array.toList_append, hBd]
        have hTle : T.size ≤ 101 := by rw [← hT, ByteArray.size_append]; show 1 + _ ≤ _; omega
        obtain ⟨T1, hT1⟩ : ∃ T1, T ++ (ByteArray.mk #[32]) = T1 := ⟨_, rfl⟩
        have hT1le : T1.size ≤ 102 := by rw [← hT1, ByteArray.size_append]; show _ + 1 ≤ _; omega
        obtain ⟨R, hR⟩ : ∃ R, T1 ++ cur = R := ⟨_, rfl⟩
        have HR : Hid (fmtS a cur = R) := by
          show _ = _
          rw [HV.out, hfl, ← hTd]
          apply ByteArray.ext
          apply Array.ext'
          show _ = R.data.toList
          rw [← hR, ← hT1, ByteArray.data_append, ByteArray.data_append, Array.toList_append, Array.toList_append, List.append_assoc]; rfl
        clear hTd hBd hpd hfl hpad hd0 hz0 hpl hn1 hn16 hcz
        clear hDE
        go_enter Tryd.func17, Tryd.ntmps17
        go_wp2_with fail
        refine (HM.out _).mono ?_
        rintro e w1 ⟨rfl, hb⟩
        obtain ⟨k1, hz, hb1⟩ := box1 hb
        have c0 := cell_c k1 0
        have c1 := cell_c k1 1
        have HK1 := Lib.hid k1
        have HB1 := Lib.hid hb1
        clear hb k1 hb1
        go_wp2_with fail
        refine (HE.out _ (HW.out.below HB1.out)).mono ?_
        rintro e w2 ⟨rfl, hb⟩
        have HK2 := Lib.hid (blk_later HK1.out hb)
        have c0 := cell_c HK2.out 0
        have c1 := cell_c HK2.out 1
        have HB2 := Lib.hid (HB1.out.trans (hb.mono HB1.out.size))
        clear hb
        go_wp2_with fail
        refine (HA.out _).mono ?_
        rintro e w3 ⟨rfl, rfl⟩
        go_wp2_with fail
        refine (HFU.out _ (HT.out.below HB2.out)).mono ?_
        rintro e w3 ⟨rfl, hb⟩
        have HK3 := Lib.hid (blk_later HK2.out hb)
        have c0 := cell_c HK3.out 0
        have c1 := cell_c HK3.out 1
        have HB3 := Lib.hid (HB2.out.trans (hb.mono HB2.out.size))
        clear hb
        go_wp2_with fail
        go_ret
        exact ⟨by rw [HR.out]; rfl, HB3.out⟩
      · obtain ⟨D, hDD⟩ : ∃ D, D = D0 := ⟨_, rfl⟩
        have hpd := hpad D (.inr ⟨by omega, hDD⟩)
        subst hDD
        have hDz : D.size ≤ 16 := hD0le
        have hDE : (if EX = 0 then 0 else EX) < D.size := by split <;> omega
        have hnle : ¬ (D.size : Int) ≤ (EX : Int) := by omega
        obtain ⟨B, hBB⟩ : ∃ B, B = D := ⟨_, rfl⟩
        have hBd : B.data.toList = bodyD EX n := by unfold bodyD; rw [if_pos (by omega), hBB, hpd, show EX = 0 by omega]
        have hpos : ¬ (0 : Int) < (EX : Int) := by omega
        have hBle : B.size ≤ 100 := by rw [hBB]; omega
        subst hBB
        obtain ⟨T, hTT⟩ : ∃ T, T = B := ⟨_, rfl⟩
        have hTd : T.data.toList = (if a < 0 then [45] else []) ++ bodyD EX n := by rw [if_neg hneg, hTT, hBd]; rfl
        have hTle : T.size ≤ 101 := by rw [hTT]; omega
        subst hTT
        obtain ⟨T1, hT1⟩ : ∃ T1, T ++ (ByteArray.mk #[32]) = T1 := ⟨_, rfl⟩
        have hT1le : T1.size ≤ 102 := by rw [← hT1, ByteArray.size_append]; show _ + 1 ≤ _; omega
        obtain ⟨R, hR⟩ : ∃ R, T1 ++ cur = R := ⟨_, rfl⟩
        have HR : Hid (fmtS a cur = R) := by
          show _ = _
          rw [HV.out, hfl, ← hTd]
          apply ByteArray.ext
          apply Array.ext'
          show _ = R.data.toList
          rw [← hR, ← hT1, ByteArray.data_append, ByteArray.data_append, Array.toList_append, Array.toList_append, List.append_assoc]; rfl
        clear hTd hBd hpd hfl hpad hd0 hz0 hpl hn1 hn16 hcz
        clear hDE
        go_enter Tryd.func17, Tryd.ntmps17
        go_wp2_with fail
        refine (HM.out _).mono ?_
        rintro e w1 ⟨rfl, hb⟩
        obtain ⟨k1, hz, hb1⟩ := box1 hb
        have c0 := cell_c k1 0
        have c1 := cell_c k1 1
        have HK1 := Lib.hid k1
        have HB1 := Lib.hid hb1
        clear hb k1 hb1
        go_wp2_with fail
        refine (HE.out _ (HW.out.below HB1.out)).mono ?_
        rintro e w2 ⟨rfl, hb⟩
        have HK2 := Lib.hid (blk_later HK1.out hb)
        have c0 := cell_c HK2.out 0
        have c1 := cell_c HK2.out 1
        have HB2 := Lib.hid (HB1.out.trans (hb.mono HB1.out.size))
        clear hb
        go_wp2_with fail
        refine (HA.out _).mono ?_
        rintro e w3 ⟨rfl, rfl⟩
        go_wp2_with fail
        refine (HFU.out _ (HT.out.below HB2.out)).mono ?_
        rintro e w3 ⟨rfl, hb⟩
        have HK3 := Lib.hid (blk_later HK2.out hb)
        have c0 := cell_c HK3.out 0
        have c1 := cell_c HK3.out 1
        have HB3 := Lib.hid (HB2.out.trans (hb.mono HB2.out.size))
        clear hb
        go_wp2_with fail
        go_ret
        exact ⟨by rw [HR.out]; rfl, HB3.out⟩
  · have hpos0 : 0 < EX := by omega
    by_cases hneg : a < 0
    · obtain ⟨c, hc⟩ : ∃ c, c = EX + 1 - D0.size := ⟨_, rfl⟩
      have hRP := fun W => Tryd.strings_Repeat (ByteArray.mk #[48]) c W (by omega) (by show 1 * c ≤ _; omega)
      rw [rep_zeros] at hRP
      obtain ⟨Z, hZ⟩ : ∃ Z : ByteArray, (⟨(List.replicate c 48).toArray⟩ : ByteArray) = Z := ⟨_, rfl⟩
      rw [hZ] at hRP
      have hZd : Z.data.toList = List.replicate c 48 := by rw [← hZ]
      have hZz : Z.size = c := by
        have : Z.data.toList.length = Z.size := by simp
        rw [← this, hZd, List.length_replicate]
      obtain ⟨D, hD⟩ : ∃ D, Z ++ D0 = D := ⟨_, rfl⟩
      have hpd := hpad D (.inl ⟨by omega, by rw [← hD, ByteArray.data_append, Array.toList_append, hZd, hc]⟩)
      have hDzE : D.size = EX + 1 := by rw [← hD, ByteArray.size_append, hZz]; omega
      have hDz : D.size ≤ 16 := by omega
      have hZle : Z.size ≤ 100 := by omega
      have hDE : (if EX = 0 then 0 else EX) < D.size := by split <;> omega
      have hle : (D0.size : Int) ≤ (EX : Int) := by omega
      have hcI : (EX : Int) + 1 - (D0.size : Int) = (c : Int) := by omega
      have HRP := Lib.hid hRP
      have hDle0 : EX < D.size := by omega
      clear hRP hZ hZd hZz hc hDzE
      obtain ⟨u, hu⟩ : ∃ u, D.size = u + EX := ⟨D.size - EX, by omega⟩
      have huI : (D.size : Int) - (EX : Int) = (u : Int) := by omega
      obtain ⟨U, hU⟩ : ∃ U, D.extract 0 u = U := ⟨_, rfl⟩
      obtain ⟨F, hF⟩ : ∃ F, D.extract u D.size = F := ⟨_, rfl⟩
      obtain ⟨UP, hUP⟩ : ∃ UP, U ++ (ByteArray.mk #[46]) = UP := ⟨_, rfl⟩
      obtain ⟨B, hB⟩ : ∃ B, UP ++ F = B := ⟨_, rfl⟩
      have hUz : U.size = u := by rw [← hU]; simp; omega
      have hFz : F.size = EX := by rw [← hF]; simp; omega
      have hUPz : UP.size = u + 1 := by rw [← hUP, ByteArray.size_append, hUz]; rfl
      have hBz : B.size = u + 1 + EX := by rw [← hB, ByteArray.size_append, hUPz, hFz]
      have hBd : B.data.toList = bodyD EX n := by
        unfold bodyD
        rw [if_neg (by omega), ← hpd, ← hB, ← hUP, ByteArray.data_append, ByteArray.data_append, Array.toList_append, Array.toList_append, ← hU, ← hF, ext_take, ext_drop, show D.data.toList.length = D.size by simp, show D.size - EX = u by omega, List.append_assoc]; rfl
      have cat1 := fun W => run_string_add_sum (P := Tryd.prog) (w := W) U (ByteArray.mk #[46]) (by show U.size + 1 ≤ _; omega)
      have cat2 := fun W => run_string_add_sum (P := Tryd.prog) (w := W) UP F (by omega)
      rw [hUP] at cat1
      rw [hB] at cat2
      have hpos : (0 : Int) < (EX : Int) := by omega
      have hu0 : (0 : Int) ≤ (u : Int) := by omega
      have hu1 : (u : Int) ≤ (D.size : Int) := by omega
      have hBle : B.size ≤ 100 := by omega
      clear hUz hFz hUPz hBz hu
      obtain ⟨T, hT⟩ : ∃ T, (ByteArray.mk #[45]) ++ B = T := ⟨_, rfl⟩
      have hTd : T.data.toList = (if a < 0 then [45] else []) ++ bodyD EX n := by rw [if_pos hneg, ← hT, ByteArray.data_append, Array.toList_append, hBd]
      have hTle : T.size ≤ 101 := by rw [← hT, ByteArray.size_append]; show 1 + _ ≤ _; omega
      obtain ⟨T1, hT1⟩ : ∃ T1, T ++ (ByteArray.mk #[32]) = T1 := ⟨_, rfl⟩
      have hT1le : T1.size ≤ 102 := by rw [← hT1, ByteArray.size_append]; show _ + 1 ≤ _; omega
      obtain ⟨R, hR⟩ : ∃ R, T1 ++ cur = R := ⟨_, rfl⟩
      have HR : Hid (fmtS a cur = R) := by
        show _ = _
        rw [HV.out, hfl, ← hTd]
        apply ByteArray.ext
        apply Array.ext'
        show _ = R.data.toList
        rw [← hR, ← hT1, ByteArray.data_append, ByteArray.data_append, Array.toList_append, Array.toList_append, List.append_assoc]; rfl
      clear hTd hBd hpd hfl hpad hd0 hz0 hpl hn1 hn16 hcz
      clear hDE
      go_enter Tryd.func17, Tryd.ntmps17
      go_wp2_with fail
      refine (HM.out _).mono ?_
      rintro e w1 ⟨rfl, hb⟩
      obtain ⟨k1, hz, hb1⟩ := box1 hb
      have c0 := cell_c k1 0
      have c1 := cell_c k1 1
      have HK1 := Lib.hid k1
      have HB1 := Lib.hid hb1
      clear hb k1 hb1
      go_wp2_with fail
      refine (HE.out _ (HW.out.below HB1.out)).mono ?_
      rintro e w2 ⟨rfl, hb⟩
      have HK2 := Lib.hid (blk_later HK1.out hb)
      have c0 := cell_c HK2.out 0
      have c1 := cell_c HK2.out 1
      have HB2 := Lib.hid (HB1.out.trans (hb.mono HB1.out.size))
      clear hb
      go_wp2_with fail
      refine (HA.out _).mono ?_
      rintro e w3 ⟨rfl, rfl⟩
      go_wp2_with fail
      refine (HFU.out _ (HT.out.below HB2.out)).mono ?_
      rintro e w3 ⟨rfl, hb⟩
      have HK3 := Lib.hid (blk_later HK2.out hb)
      have c0 := cell_c HK3.out 0
      have c1 := cell_c HK3.out 1
      have HB3 := Lib.hid (HB2.out.trans (hb.mono HB2.out.size))
      clear hb
      go_wp2_with fail
      refine (HRP.out _).mono ?_
      rintro e w4 ⟨rfl, hb⟩
      have HK4 := Lib.hid (blk_later HK3.out hb)
      have c0 := cell_c HK4.out 0
      have c1 := cell_c HK4.out 1
      have HB4 := Lib.hid (HB3.out.trans (hb.mono HB3.out.size))
      clear hb
      go_wp2_with fail
      go_quiet (fail)
      go_wp2_with fail
      go_ret
      exact ⟨by rw [HR.out]; rfl, dNb HB4.out _⟩
    · obtain ⟨c, hc⟩ : ∃ c, c = EX + 1 - D0.size := ⟨_, rfl⟩
      have hRP := fun W => Tryd.strings_Repeat (ByteArray.mk #[48]) c W (by omega) (by show 1 * c ≤ _; omega)
      rw [rep_zeros] at hRP
      obtain ⟨Z, hZ⟩ : ∃ Z : ByteArray, (⟨(List.replicate c 48).toArray⟩ : ByteArray) = Z := ⟨_, rfl⟩
      rw [hZ] at hRP
      have hZd : Z.data.toList = List.replicate c 48 := by rw [← hZ]
      have hZz : Z.size = c := by
        have : Z.data.toList.length = Z.size := by simp
        rw [← this, hZd, List.length_replicate]
      obtain ⟨D, hD⟩ : ∃ D, Z ++ D0 = D := ⟨_, rfl⟩
      have hpd := hpad D (.inl ⟨by omega, by rw [← hD, ByteArray.data_append, Array.toList_append, hZd, hc]⟩)
      have hDzE : D.size = EX + 1 := by rw [← hD, ByteArray.size_append, hZz]; omega
      have hDz : D.size ≤ 16 := by omega
      have hZle : Z.size ≤ 100 := by omega
      have hDE : (if EX = 0 then 0 else EX) < D.size := by split <;> omega
      have hle : (D0.size : Int) ≤ (EX : Int) := by omega
      have hcI : (EX : Int) + 1 - (D0.size : Int) = (c : Int) := by omega
      have HRP := Lib.hid hRP
      have hDle0 : EX < D.size := by omega
      clear hRP hZ hZd hZz hc hDzE
      obtain ⟨u, hu⟩ : ∃ u, D.size = u + EX := ⟨D.size - EX, by omega⟩
      have huI : (D.size : Int) - (EX : Int) = (u : Int) := by omega
      obtain ⟨U, hU⟩ : ∃ U, D.extract 0 u = U := ⟨_, rfl⟩
      obtain ⟨F, hF⟩ : ∃ F, D.extract u D.size = F := ⟨_, rfl⟩
      obtain ⟨UP, hUP⟩ : ∃ UP, U ++ (ByteArray.mk #[46]) = UP := ⟨_, rfl⟩
      obtain ⟨B, hB⟩ : ∃ B, UP ++ F = B := ⟨_, rfl⟩
      have hUz : U.size = u := by rw [← hU]; simp; omega
      have hFz : F.size = EX := by rw [← hF]; simp; omega
      have hUPz : UP.size = u + 1 := by rw [← hUP, ByteArray.size_append, hUz]; rfl
      have hBz : B.size = u + 1 + EX := by rw [← hB, ByteArray.size_append, hUPz, hFz]
      have hBd : B.data.toList = bodyD EX n := by
        unfold bodyD
        rw [if_neg (by omega), ← hpd, ← hB, ← hUP, ByteArray.data_append, ByteArray.data_append, Array.toList_append, Array.toList_append, ← hU, ← hF, ext_take, ext_drop, show D.data.toList.length = D.size by simp, show D.size - EX = u by omega, List.append_assoc]; rfl
      have cat1 := fun W => run_string_add_sum (P := Tryd.prog) (w := W) U (ByteArray.mk #[46]) (by show U.size + 1 ≤ _; omega)
      have cat2 := fun W => run_string_add_sum (P := Tryd.prog) (w := W) UP F (by omega)
      rw [hUP] at cat1
      rw [hB] at cat2
      have hpos : (0 : Int) < (EX : Int) := by omega
      have hu0 : (0 : Int) ≤ (u : Int) := by omega
      have hu1 : (u : Int) ≤ (D.size : Int) := by omega
      have hBle : B.size ≤ 100 := by omega
      clear hUz hFz hUPz hBz hu
      obtain ⟨T, hTT⟩ : ∃ T, T = B := ⟨_, rfl⟩
      have hTd : T.data.toList = (if a < 0 then [45] else []) ++ bodyD EX n := by rw [if_neg hneg, hTT, hBd]; rfl
      have hTle : T.size ≤ 101 := by rw [hTT]; omega
      subst hTT
      obtain ⟨T1, hT1⟩ : ∃ T1, T ++ (ByteArray.mk #[32]) = T1 := ⟨_, rfl⟩
      have hT1le : T1.size ≤ 102 := by rw [← hT1, ByteArray.size_append]; show _ + 1 ≤ _; omega
      obtain ⟨R, hR⟩ : ∃ R, T1 ++ cur = R := ⟨_, rfl⟩
      have HR : Hid (fmtS a cur = R) := by
        show _ = _
        rw [HV.out, hfl, ← hTd]
        apply ByteArray.ext
        apply Array.ext'
        show _ = R.data.toList
        rw [← hR, ← hT1, ByteArray.data_append, ByteArray.data_append, Array.toList_append, Array.toList_append, List.append_assoc]; rfl
      clear hTd hBd hpd hfl hpad hd0 hz0 hpl hn1 hn16 hcz
      clear hDE
      go_enter Tryd.func17, Tryd.ntmps17
      go_wp2_with fail
      refine (HM.out _).mono ?_
      rintro e w1 ⟨rfl, hb⟩
      obtain ⟨k1, hz, hb1⟩ := box1 hb
      have c0 := cell_c k1 0
      have c1 := cell_c k1 1
      have HK1 := Lib.hid k1
      have HB1 := Lib.hid hb1
      clear hb k1 hb1
      go_wp2_with fail
      refine (HE.out _ (HW.out.below HB1.out)).mono ?_
      rintro e w2 ⟨rfl, hb⟩
      have HK2 := Lib.hid (blk_later HK1.out hb)
      have c0 := cell_c HK2.out 0
      have c1 := cell_c HK2.out 1
      have HB2 := Lib.hid (HB1.out.trans (hb.mono HB1.out.size))
      clear hb
      go_wp2_with fail
      refine (HA.out _).mono ?_
      rintro e w3 ⟨rfl, rfl⟩
      go_wp2_with fail
      refine (HFU.out _ (HT.out.below HB2.out)).mono ?_
      rintro e w3 ⟨rfl, hb⟩
      have HK3 := Lib.hid (blk_later HK2.out hb)
      have c0 := cell_c HK3.out 0
      have c1 := cell_c HK3.out 1
      have HB3 := Lib.hid (HB2.out.trans (hb.mono HB2.out.size))
      clear hb
      go_wp2_with fail
      refine (HRP.out _).mono ?_
      rintro e w4 ⟨rfl, hb⟩
      have HK4 := Lib.hid (blk_later HK3.out hb)
      have c0 := cell_c HK4.out 0
      have c1 := cell_c HK4.out 1
      have HB4 := Lib.hid (HB3.out.trans (hb.mono HB3.out.size))
      clear hb
      go_wp2_with fail
      go_quiet (fail)
      go_wp2_with fail
      go_ret
      exact ⟨by rw [HR.out]; rfl, dNb HB4.out _⟩
theorem fmt_any (a : Int) (cur : ByteArray) (w : World) (hw : DecW w) (ht : TabW w) (hs : cur.size ≤ maxLen) : Calls Tryd.prog 17 #[.agg #[.int .i64 a, .string cur]] w (FmtPost a cur w) := by
  by_cases h : monE a cur = 0
  · exact fmt_ok a cur w hw ht h
  · exact fmt_bad a cur w hs h
end Go.Proofs.YtadehobimlpmcaaDoor
