/- The walk of Scale where its arguments are permitted, and the reference's Scale. -/
import Derived.Test.YtadehobimlpmcaaDoorScl
namespace Go.Proofs.YtadehobimlpmcaaDoor
set_option linter.unusedVariables false
open Go.RowKit

theorem prod_le {a n A N : Nat} (h1 : a ≤ A) (h2 : n ≤ N) : a * n ≤ A * N := Nat.mul_le_mul h1 h2
theorem hi_out {P D : Nat} (h : D ≤ P / 18446744073709551616) (hD : 0 < D) : 18446744073709551616 ≤ P / D := by
  rw [Nat.le_div_iff_mul_le hD]
  have := Nat.div_mul_le_self P 18446744073709551616
  have h2 : 18446744073709551616 * D ≤ 18446744073709551616 * (P / 18446744073709551616) := Nat.mul_le_mul_left _ h
  omega
theorem hi_lo (P : Nat) : P / 18446744073709551616 * 18446744073709551616 + P % 18446744073709551616 = P := by omega
set_option maxHeartbeats 6400000 in
theorem scale_ok (a : Int) (cur : ByteArray) (num den mode : Int) (w : World) (hs : cur.size ≤ maxLen) (hm0 : monE a cur = 0) (hp : parB num den mode = true) :
    Calls Tryd.prog 10 #[.agg #[.int .i64 a, .string cur], .int .i64 num, .int .i64 den, .int .i64 mode] w (SclPost a cur num den mode w) := by
  have HP := Lib.hid (fun W => mon_any a cur W hs)
  rw [hm0] at HP
  obtain ⟨p1, p2, p3, p4, p5, p6⟩ := (parB_iff num den mode).1 hp
  obtain ⟨i1, i2⟩ := (inT_iff a).1 (monE_ok hm0).2
  have HOUT := Lib.hid (fun h => scl_out (mode := mode) hm0 hp h)
  have HIN := Lib.hid (fun h => scl_in (mode := mode) hm0 hp h)
  obtain ⟨D, rfl⟩ := Int.eq_ofNat_of_zero_le (show 0 ≤ den by omega)
  obtain ⟨m, rfl⟩ := Int.eq_ofNat_of_zero_le (show 0 ≤ mode by omega)
  have HQ := Lib.hid (show sclQ a num D m = rndQ (a.natAbs * num.natAbs / D) (a.natAbs * num.natAbs % D) D m from rfl)
  have HN := Lib.hid (show sclN a num D m = if decide (a < 0) = decide (num < 0) then (sclQ a num D m : Int) else -(sclQ a num D m : Int) from rfl)
  have hA := Lib.hid (fun W => mag_any a W (by omega) (by omega))
  have hB := Lib.hid (fun W => mag_any num W (by omega) (by omega))
  have hAl : a.natAbs ≤ 4503599627370496 := by omega
  have hBl : num.natAbs ≤ 1099511627776 := by omega
  have hPl := prod_le hAl hBl
  have hMU := Lib.hid (fun W => Tryd.bits_Mul64 a.natAbs num.natAbs (by omega) (by omega) W)
  generalize a.natAbs = A at *
  generalize num.natAbs = B at *
  generalize sclQ a num D m = SQ at *
  generalize sclN a num D m = SN at *
  generalize A * B = PR at *
  have hDpos : 0 < D := by omega
  have eD : IntKind.u64.wrap (D : Int) = (D : Int) := wrapU_in _ (by omega) (by omega)
  have q1 : ¬ (D : Int) < 1 := by omega
  have q2 : ¬ (1099511627776 : Int) < (D : Int) := by omega
  have q3 : ¬ num < -1099511627776 := by omega
  have q4 : ¬ (1099511627776 : Int) < num := by omega
  have q5 : ¬ (m : Int) < 1 := by omega
  have q6 : ¬ (4 : Int) < (m : Int) := by omega
  have HDV := Lib.hid (fun W h => div_any (PR / 18446744073709551616) (PR % 18446744073709551616) D W h (Nat.mod_lt _ (by omega)) (by omega))
  have hhl := hi_lo PR
  rw [hhl] at HDV
  have HHO := Lib.hid (fun h => hi_out (P := PR) (D := D) h hDpos)
  obtain ⟨hi, hhi⟩ : ∃ hi, PR / 18446744073709551616 = hi := ⟨_, rfl⟩
  obtain ⟨lo, hlo⟩ : ∃ lo, PR % 18446744073709551616 = lo := ⟨_, rfl⟩
  rw [hhi, hlo] at HDV hMU
  rw [hhi] at HHO
  have HRL := Lib.hid (rnd_le (PR / D) (PR % D) D m)
  rw [← HQ.out] at HRL
  by_cases hbig : D ≤ hi
  · have HV := Lib.hid (HOUT.out (by have := HHO.out hbig; have := HRL.out.1; unfold M52; omega))
    have hbig' : (D : Int) ≤ (hi : Int) := by omega
    clear hhl hhi hlo hPl hAl hBl p1 p2 p3 p4 p5 p6 hp hm0 hs hbig
    go_enter Tryd.func10, Tryd.ntmps10
    go_wp2_with fail
    refine (HP.out _).mono ?_
    rintro e w1 ⟨rfl, hb⟩
    obtain ⟨k1, k2, hz, hb1⟩ := box2 hb
    have c0 := cell_c k1 0
    have d0 := cell_c k2 0
    have d1 := cell_c k2 1
    have f0 := cell_f k2 0
    have f1 := cell_f k2 1
    have HB1 := Lib.hid hb1
    clear hb k1 k2 hb1
    go_wp2_with fail
    refine (hA.out _).mono ?_
    rintro e w2 ⟨rfl, rfl⟩
    go_wp2_with fail
    refine (hB.out _).mono ?_
    rintro e w2 ⟨rfl, rfl⟩
    go_wp2_with fail
    refine (hMU.out _).mono ?_
    rintro e w2 ⟨rfl, rfl⟩
    go_wp2_with fail
    refine bodyPost_ret (v := .tuple #[zeroM, .int .i64 4]) ?_ rfl ?_
    · have hres : Tryd.f10.results = #[.cell 8 23, .tmp 9] := by kernel_rfl
      simp only [results, hres]
      go_simp
      rfl
    · exact ⟨by rw [HV.out.1, HV.out.2], (HB1.out.setCell (p := ⟨w.heap.size + 1, 0, none⟩) (by simp) _).setCell (p := ⟨w.heap.size + 1, 1, none⟩) (by simp) _⟩
  · have hbig' : ¬ (D : Int) ≤ (hi : Int) := by omega
    have hDV := Lib.hid (fun W => HDV.out W (by omega))
    obtain ⟨Q, hQ⟩ : ∃ Q, PR / D = Q := ⟨_, rfl⟩
    obtain ⟨R, hR⟩ : ∃ R, PR % D = R := ⟨_, rfl⟩
    have hRD : R < D := by rw [← hR]; exact Nat.mod_lt _ hDpos
    rw [hQ, hR] at hDV HQ
    rw [hQ] at HRL
    clear HDV
    by_cases hqb : 4503599627370496 < Q
    · have HV := Lib.hid (HOUT.out (by have := HRL.out.1; unfold M52; omega))
      have hqb' : (4503599627370496 : Int) < (Q : Int) := by omega
      clear hhl hhi hlo hPl hAl hBl p1 p2 p3 p4 p5 p6 hp hm0 hs hbig hQ hR hRD hqb
      go_enter Tryd.func10, Tryd.ntmps10
      go_wp2_with fail
      refine (HP.out _).mono ?_
      rintro e w1 ⟨rfl, hb⟩
      obtain ⟨k1, k2, hz, hb1⟩ := box2 hb
      have c0 := cell_c k1 0
      have HK2 := Lib.hid k2
      have HB1 := Lib.hid hb1
      clear hb k1 k2 hb1
      go_wp2_with fail
      refine (hA.out _).mono ?_
      rintro e w2 ⟨rfl, rfl⟩
      go_wp2_with fail
      refine (hB.out _).mono ?_
      rintro e w2 ⟨rfl, rfl⟩
      go_wp2_with fail
      refine (hMU.out _).mono ?_
      rintro e w2 ⟨rfl, rfl⟩
      go_wp2_with fail
      refine (hDV.out _).mono ?_
      rintro e w2 ⟨rfl, hb⟩
      have k2 := blk_later HK2.out hb
      have d0 := cell_c k2 0
      have d1 := cell_c k2 1
      have f0 := cell_f k2 0
      have f1 := cell_f k2 1
      have hz2 : w.heap.size + 1 < w2.heap.size := Nat.lt_of_lt_of_le hz hb.size
      have HB2 := Lib.hid (HB1.out.trans (hb.mono HB1.out.size))
      clear hb k2
      go_wp2_with fail
      refine bodyPost_ret (v := .tuple #[zeroM, .int .i64 4]) ?_ rfl ?_
      · have hres : Tryd.f10.results = #[.cell 8 23, .tmp 9] := by kernel_rfl
        simp only [results, hres]
        go_simp
        rfl
      · exact ⟨by rw [HV.out.1, HV.out.2], (HB2.out.setCell (p := ⟨w.heap.size + 1, 0, none⟩) (by simp) _).setCell (p := ⟨w.heap.size + 1, 1, none⟩) (by simp) _⟩
    · have hqb' : ¬ (4503599627370496 : Int) < (Q : Int) := by omega
      have hRN := Lib.hid (fun W => rnd_any Q R D m W hRD (by omega) (by omega) (by omega) (by omega))
      rw [← HQ.out] at hRN
      have hSQ : SQ ≤ 4503599627370497 := by have := HRL.out.2; omega
      have eS : IntKind.i64.wrap (SQ : Int) = (SQ : Int) := IntWalk.i64_in _ (by omega)
      have eN : IntKind.i64.wrap (-(SQ : Int)) = -(SQ : Int) := IntWalk.i64_in _ (by omega)
      have HFIN : Hid ((sclE a cur num D m = totE SN) ∧ sclV a cur num D m = totV SN cur) := by
        by_cases hle : SQ ≤ M52
        · have h := HIN.out hle
          have ht : inT SN = true := by
            rw [inT_iff, HN.out]
            unfold M52 at hle
            split <;> omega
          show _ ∧ _
          rw [h.1, h.2]; unfold totE totV; rw [if_pos ht, if_pos ht]; exact ⟨rfl, rfl⟩
        · have h := HOUT.out (by omega)
          have ht : inT SN = false := by
            rw [Bool.eq_false_iff, Ne, inT_iff, HN.out]
            unfold M52 at hle
            split <;> omega
          show _ ∧ _
          rw [h.1, h.2]; unfold totE totV; rw [ht]; exact ⟨rfl, rfl⟩
      have HTO := Lib.hid (fun W => tot_any SN cur W)
      have HTV : Hid (totV SN cur = zeroM ∨ totV SN cur = monV SN cur) := by
        show _ ∨ _
        unfold totV; split; exact .inr rfl; exact .inl rfl
      clear hhl hhi hlo hPl hAl hBl p1 p2 p3 p4 p5 p6 hp hm0 hs hbig hQ hR hRD hqb i1 i2
      have hsg : (a < 0 ∧ num < 0 ∧ SN = (SQ : Int)) ∨ (a < 0 ∧ ¬ num < 0 ∧ SN = -(SQ : Int)) ∨ (¬ a < 0 ∧ num < 0 ∧ SN = -(SQ : Int)) ∨ (¬ a < 0 ∧ ¬ num < 0 ∧ SN = (SQ : Int)) := by
        rw [HN.out]
        by_cases x1 : a < 0 <;> by_cases x2 : num < 0 <;> simp [x1, x2]
      clear HN HOUT HIN HRL HQ HHO
      rcases HTV.out with hv | hv
      · rw [hv] at HTO HFIN
        clear hv HTV
        unfold zeroM at HTO
        generalize totE SN = TE at HTO HFIN
        rcases hsg with ⟨x1, x2, rfl⟩ | ⟨x1, x2, rfl⟩ | ⟨x1, x2, rfl⟩ | ⟨x1, x2, rfl⟩
        · have y1 : decide (a < 0) = true := decide_eq_true x1
          have y2 : decide (num < 0) = true := decide_eq_true x2
          clear x1 x2
          go_enter Tryd.func10, Tryd.ntmps10
          go_wp2_with fail
          refine (HP.out _).mono ?_
          rintro e w1 ⟨rfl, hb⟩
          obtain ⟨k1, k2, hz, hb1⟩ := box2 hb
          have c0 := cell_c k1 0
          have HK1 := Lib.hid k1
          have HK2 := Lib.hid k2
          have HB1 := Lib.hid hb1
          clear hb k1 k2 hb1
          go_wp2_with fail
          refine (hA.out _).mono ?_
          rintro e w2 ⟨rfl, rfl⟩
          go_wp2_with fail
          refine (hB.out _).mono ?_
          rintro e w2 ⟨rfl, rfl⟩
          go_wp2_with fail
          refine (hMU.out _).mono ?_
          rintro e w2 ⟨rfl, rfl⟩
          go_wp2_with fail
          refine (hDV.out _).mono ?_
          rintro e w2 ⟨rfl, hb⟩
          have k1 := blk_later HK1.out hb
          have c0 := cell_c k1 0
          have c1 := cell_c k1 1
          have HK4 := Lib.hid (blk_later HK2.out hb)
          have hz2 : w.heap.size + 1 < w2.heap.size := Nat.lt_of_lt_of_le hz hb.size
          have HB2 := Lib.hid (HB1.out.trans (hb.mono HB1.out.size))
          clear hb k1
          go_wp2_with fail
          refine (hRN.out _).mono ?_
          rintro e w3 ⟨rfl, rfl⟩
          go_wp2_with fail
          refine (HTO.out _).mono ?_
          rintro e w3 ⟨rfl, hb⟩
          have k2 := blk_later HK4.out hb
          have d0 := cell_c k2 0
          have d1 := cell_c k2 1
          have f0 := cell_f k2 0
          have f1 := cell_f k2 1
          have hz3 : w.heap.size + 1 < w3.heap.size := Nat.lt_of_lt_of_le hz2 hb.size
          have HB3 := Lib.hid (HB2.out.trans (hb.mono HB2.out.size))
          clear hb k2
          go_wp2_with fail
          refine bodyPost_ret (v := .tuple #[zeroM, .int .i64 TE]) ?_ rfl ?_
          · have hres : Tryd.f10.results = #[.cell 8 23, .tmp 9] := by kernel_rfl
            simp only [results, hres]
            go_simp
            rfl
          · exact ⟨by rw [HFIN.out.1, HFIN.out.2], (HB3.out.setCell (p := ⟨w.heap.size + 1, 0, none⟩) (by simp) _).setCell (p := ⟨w.heap.size + 1, 1, none⟩) (by simp) _⟩
        · have y1 : decide (a < 0) = true := decide_eq_true x1
          have y2 : decide (num < 0) = false := decide_eq_false x2
          clear x1 x2
          go_enter Tryd.func10, Tryd.ntmps10
          go_wp2_with fail
          refine (HP.out _).mono ?_
          rintro e w1 ⟨rfl, hb⟩
          obtain ⟨k1, k2, hz, hb1⟩ := box2 hb
          have c0 := cell_c k1 0
          have HK1 := Lib.hid k1
          have HK2 := Lib.hid k2
          have HB1 := Lib.hid hb1
          clear hb k1 k2 hb1
          go_wp2_with fail
          refine (hA.out _).mono ?_
          rintro e w2 ⟨rfl, rfl⟩
          go_wp2_with fail
          refine (hB.out _).mono ?_
          rintro e w2 ⟨rfl, rfl⟩
          go_wp2_with fail
          refine (hMU.out _).mono ?_
          rintro e w2 ⟨rfl, rfl⟩
          go_wp2_with fail
          refine (hDV.out _).mono ?_
          rintro e w2 ⟨rfl, hb⟩
          have k1 := blk_later HK1.out hb
          have c0 := cell_c k1 0
          have c1 := cell_c k1 1
          have HK4 := Lib.hid (blk_later HK2.out hb)
          have hz2 : w.heap.size + 1 < w2.heap.size := Nat.lt_of_lt_of_le hz hb.size
          have HB2 := Lib.hid (HB1.out.trans (hb.mono HB1.out.size))
          clear hb k1
          go_wp2_with fail
          refine (hRN.out _).mono ?_
          rintro e w3 ⟨rfl, rfl⟩
          go_wp2_with fail
          refine (HTO.out _).mono ?_
          rintro e w3 ⟨rfl, hb⟩
          have k2 := blk_later HK4.out hb
          have d0 := cell_c k2 0
          have d1 := cell_c k2 1
          have f0 := cell_f k2 0
          have f1 := cell_f k2 1
          have hz3 : w.heap.size + 1 < w3.heap.size := Nat.lt_of_lt_of_le hz2 hb.size
          have HB3 := Lib.hid (HB2.out.trans (hb.mono HB2.out.size))
          clear hb k2
          go_wp2_with fail
          refine bodyPost_ret (v := .tuple #[zeroM, .int .i64 TE]) ?_ rfl ?_
          · have hres : Tryd.f10.results = #[.cell 8 23, .tmp 9] := by kernel_rfl
            simp only [results, hres]
            go_simp
            rfl
          · exact ⟨by rw [HFIN.out.1, HFIN.out.2], (HB3.out.setCell (p := ⟨w.heap.size + 1, 0, none⟩) (by simp) _).setCell (p := ⟨w.heap.size + 1, 1, none⟩) (by simp) _⟩
        · have y1 : decide (a < 0) = false := decide_eq_false x1
          have y2 : decide (num < 0) = true := decide_eq_true x2
          clear x1 x2
          go_enter Tryd.func10, Tryd.ntmps10
          go_wp2_with fail
          refine (HP.out _).mono ?_
          rintro e w1 ⟨rfl, hb⟩
          obtain ⟨k1, k2, hz, hb1⟩ := box2 hb
          have c0 := cell_c k1 0
          have HK1 := Lib.hid k1
          have HK2 := Lib.hid k2
          have HB1 := Lib.hid hb1
          clear hb k1 k2 hb1
          go_wp2_with fail
          refine (hA.out _).mono ?_
          rintro e w2 ⟨rfl, rfl⟩
          go_wp2_with fail
          refine (hB.out _).mono ?_
          rintro e w2 ⟨rfl, rfl⟩
          go_wp2_with fail
          refine (hMU.out _).mono ?_
          rintro e w2 ⟨rfl, rfl⟩
          go_wp2_with fail
          refine (hDV.out _).mono ?_
          rintro e w2 ⟨rfl, hb⟩
          have k1 := blk_later HK1.out hb
          have c0 := cell_c k1 0
          have c1 := cell_c k1 1
          have HK4 := Lib.hid (blk_later HK2.out hb)
          have hz2 : w.heap.size + 1 < w2.heap.size := Nat.lt_of_lt_of_le hz hb.size
          have HB2 := Lib.hid (HB1.out.trans (hb.mono HB1.out.size))
          clear hb k1
          go_wp2_with fail
          refine (hRN.out _).mono ?_
          rintro e w3 ⟨rfl, rfl⟩
          go_wp2_with fail
          refine (HTO.out _).mono ?_
          rintro e w3 ⟨rfl, hb⟩
          have k2 := blk_later HK4.out hb
          have d0 := cell_c k2 0
          have d1 := cell_c k2 1
          have f0 := cell_f k2 0
          have f1 := cell_f k2 1
          have hz3 : w.heap.size + 1 < w3.heap.size := Nat.lt_of_lt_of_le hz2 hb.size
          have HB3 := Lib.hid (HB2.out.trans (hb.mono HB2.out.size))
          clear hb k2
          go_wp2_with fail
          refine bodyPost_ret (v := .tuple #[zeroM, .int .i64 TE]) ?_ rfl ?_
          · have hres : Tryd.f10.results = #[.cell 8 23, .tmp 9] := by kernel_rfl
            simp only [results, hres]
            go_simp
            rfl
          · exact ⟨by rw [HFIN.out.1, HFIN.out.2], (HB3.out.setCell (p := ⟨w.heap.size + 1, 0, none⟩) (by simp) _).setCell (p := ⟨w.heap.size + 1, 1, none⟩) (by simp) _⟩
        · have y1 : decide (a < 0) = false := decide_eq_false x1
          have y2 : decide (num < 0) = false := decide_eq_false x2
          clear x1 x2
          go_enter Tryd.func10, Tryd.ntmps10
          go_wp2_with fail
          refine (HP.out _).mono ?_
          rintro e w1 ⟨rfl, hb⟩
          obtain ⟨k1, k2, hz, hb1⟩ := box2 hb
          have c0 := cell_c k1 0
          have HK1 := Lib.hid k1
          have HK2 := Lib.hid k2
          have HB1 := Lib.hid hb1
          clear hb k1 k2 hb1
          go_wp2_with fail
          refine (hA.out _).mono ?_
          rintro e w2 ⟨rfl, rfl⟩
          go_wp2_with fail
          refine (hB.out _).mono ?_
          rintro e w2 ⟨rfl, rfl⟩
          go_wp2_with fail
          refine (hMU.out _).mono ?_
          rintro e w2 ⟨rfl, rfl⟩
          go_wp2_with fail
          refine (hDV.out _).mono ?_
          rintro e w2 ⟨rfl, hb⟩
          have k1 := blk_later HK1.out hb
          have c0 := cell_c k1 0
          have c1 := cell_c k1 1
          have HK4 := Lib.hid (blk_later HK2.out hb)
          have hz2 : w.heap.size + 1 < w2.heap.size := Nat.lt_of_lt_of_le hz hb.size
          have HB2 := Lib.hid (HB1.out.trans (hb.mono HB1.out.size))
          clear hb k1
          go_wp2_with fail
          refine (hRN.out _).mono ?_
          rintro e w3 ⟨rfl, rfl⟩
          go_wp2_with fail
          refine (HTO.out _).mono ?_
          rintro e w3 ⟨rfl, hb⟩
          have k2 := blk_later HK4.out hb
          have d0 := cell_c k2 0
          have d1 := cell_c k2 1
          have f0 := cell_f k2 0
          have f1 := cell_f k2 1
          have hz3 : w.heap.size + 1 < w3.heap.size := Nat.lt_of_lt_of_le hz2 hb.size
          have HB3 := Lib.hid (HB2.out.trans (hb.mono HB2.out.size))
          clear hb k2
          go_wp2_with fail
          refine bodyPost_ret (v := .tuple #[zeroM, .int .i64 TE]) ?_ rfl ?_
          · have hres : Tryd.f10.results = #[.cell 8 23, .tmp 9] := by kernel_rfl
            simp only [results, hres]
            go_simp
            rfl
          · exact ⟨by rw [HFIN.out.1, HFIN.out.2], (HB3.out.setCell (p := ⟨w.heap.size + 1, 0, none⟩) (by simp) _).setCell (p := ⟨w.heap.size + 1, 1, none⟩) (by simp) _⟩
      · rw [hv] at HTO HFIN
        clear hv HTV
        unfold monV at HTO
        generalize totE SN = TE at HTO HFIN
        rcases hsg with ⟨x1, x2, rfl⟩ | ⟨x1, x2, rfl⟩ | ⟨x1, x2, rfl⟩ | ⟨x1, x2, rfl⟩
        · have y1 : decide (a < 0) = true := decide_eq_true x1
          have y2 : decide (num < 0) = true := decide_eq_true x2
          clear x1 x2
          go_enter Tryd.func10, Tryd.ntmps10
          go_wp2_with fail
          refine (HP.out _).mono ?_
          rintro e w1 ⟨rfl, hb⟩
          obtain ⟨k1, k2, hz, hb1⟩ := box2 hb
          have c0 := cell_c k1 0
          have HK1 := Lib.hid k1
          have HK2 := Lib.hid k2
          have HB1 := Lib.hid hb1
          clear hb k1 k2 hb1
          go_wp2_with fail
          refine (hA.out _).mono ?_
          rintro e w2 ⟨rfl, rfl⟩
          go_wp2_with fail
          refine (hB.out _).mono ?_
          rintro e w2 ⟨rfl, rfl⟩
          go_wp2_with fail
          refine (hMU.out _).mono ?_
          rintro e w2 ⟨rfl, rfl⟩
          go_wp2_with fail
          refine (hDV.out _).mono ?_
          rintro e w2 ⟨rfl, hb⟩
          have k1 := blk_later HK1.out hb
          have c0 := cell_c k1 0
          have c1 := cell_c k1 1
          have HK4 := Lib.hid (blk_later HK2.out hb)
          have hz2 : w.heap.size + 1 < w2.heap.size := Nat.lt_of_lt_of_le hz hb.size
          have HB2 := Lib.hid (HB1.out.trans (hb.mono HB1.out.size))
          clear hb k1
          go_wp2_with fail
          refine (hRN.out _).mono ?_
          rintro e w3 ⟨rfl, rfl⟩
          go_wp2_with fail
          refine (HTO.out _).mono ?_
          rintro e w3 ⟨rfl, hb⟩
          have k2 := blk_later HK4.out hb
          have d0 := cell_c k2 0
          have d1 := cell_c k2 1
          have f0 := cell_f k2 0
          have f1 := cell_f k2 1
          have hz3 : w.heap.size + 1 < w3.heap.size := Nat.lt_of_lt_of_le hz2 hb.size
          have HB3 := Lib.hid (HB2.out.trans (hb.mono HB2.out.size))
          clear hb k2
          go_wp2_with fail
          refine bodyPost_ret (v := .tuple #[monV (SQ : Int) cur, .int .i64 TE]) ?_ rfl ?_
          · have hres : Tryd.f10.results = #[.cell 8 23, .tmp 9] := by kernel_rfl
            simp only [results, hres]
            go_simp
            rfl
          · exact ⟨by rw [HFIN.out.1, HFIN.out.2], (HB3.out.setCell (p := ⟨w.heap.size + 1, 0, none⟩) (by simp) _).setCell (p := ⟨w.heap.size + 1, 1, none⟩) (by simp) _⟩
        · have y1 : decide (a < 0) = true := decide_eq_true x1
          have y2 : decide (num < 0) = false := decide_eq_false x2
          clear x1 x2
          go_enter Tryd.func10, Tryd.ntmps10
          go_wp2_with fail
          refine (HP.out _).mono ?_
          rintro e w1 ⟨rfl, hb⟩
          obtain ⟨k1, k2, hz, hb1⟩ := box2 hb
          have c0 := cell_c k1 0
          have HK1 := Lib.hid k1
          have HK2 := Lib.hid k2
          have HB1 := Lib.hid hb1
          clear hb k1 k2 hb1
          go_wp2_with fail
          refine (hA.out _).mono ?_
          rintro e w2 ⟨rfl, rfl⟩
          go_wp2_with fail
          refine (hB.out _).mono ?_
          rintro e w2 ⟨rfl, rfl⟩
          go_wp2_with fail
          refine (hMU.out _).mono ?_
          rintro e w2 ⟨rfl, rfl⟩
          go_wp2_with fail
          refine (hDV.out _).mono ?_
          rintro e w2 ⟨rfl, hb⟩
          have k1 := blk_later HK1.out hb
          have c0 := cell_c k1 0
          have c1 := cell_c k1 1
          have HK4 := Lib.hid (blk_later HK2.out hb)
          have hz2 : w.heap.size + 1 < w2.heap.size := Nat.lt_of_lt_of_le hz hb.size
          have HB2 := Lib.hid (HB1.out.trans (hb.mono HB1.out.size))
          clear hb k1
          go_wp2_with fail
          refine (hRN.out _).mono ?_
          rintro e w3 ⟨rfl, rfl⟩
          go_wp2_with fail
          refine (HTO.out _).mono ?_
          rintro e w3 ⟨rfl, hb⟩
          have k2 := blk_later HK4.out hb
          have d0 := cell_c k2 0
          have d1 := cell_c k2 1
          have f0 := cell_f k2 0
          have f1 := cell_f k2 1
          have hz3 : w.heap.size + 1 < w3.heap.size := Nat.lt_of_lt_of_le hz2 hb.size
          have HB3 := Lib.hid (HB2.out.trans (hb.mono HB2.out.size))
          clear hb k2
          go_wp2_with fail
          refine bodyPost_ret (v := .tuple #[monV (-(SQ : Int)) cur, .int .i64 TE]) ?_ rfl ?_
          · have hres : Tryd.f10.results = #[.cell 8 23, .tmp 9] := by kernel_rfl
            simp only [results, hres]
            go_simp
            rfl
          · exact ⟨by rw [HFIN.out.1, HFIN.out.2], (HB3.out.setCell (p := ⟨w.heap.size + 1, 0, none⟩) (by simp) _).setCell (p := ⟨w.heap.size + 1, 1, none⟩) (by simp) _⟩
        · have y1 : decide (a < 0) = false := decide_eq_false x1
          have y2 : decide (num < 0) = true := decide_eq_true x2
          clear x1 x2
          go_enter Tryd.func10, Tryd.ntmps10
          go_wp2_with fail
          refine (HP.out _).mono ?_
          rintro e w1 ⟨rfl, hb⟩
          obtain ⟨k1, k2, hz, hb1⟩ := box2 hb
          have c0 := cell_c k1 0
          have HK1 := Lib.hid k1
          have HK2 := Lib.hid k2
          have HB1 := Lib.hid hb1
          clear hb k1 k2 hb1
          go_wp2_with fail
          refine (hA.out _).mono ?_
          rintro e w2 ⟨rfl, rfl⟩
          go_wp2_with fail
          refine (hB.out _).mono ?_
          rintro e w2 ⟨rfl, rfl⟩
          go_wp2_with fail
          refine (hMU.out _).mono ?_
          rintro e w2 ⟨rfl, rfl⟩
          go_wp2_with fail
          refine (hDV.out _).mono ?_
          rintro e w2 ⟨rfl, hb⟩
          have k1 := blk_later HK1.out hb
          have c0 := cell_c k1 0
          have c1 := cell_c k1 1
          have HK4 := Lib.hid (blk_later HK2.out hb)
          have hz2 : w.heap.size + 1 < w2.heap.size := Nat.lt_of_lt_of_le hz hb.size
          have HB2 := Lib.hid (HB1.out.trans (hb.mono HB1.out.size))
          clear hb k1
          go_wp2_with fail
          refine (hRN.out _).mono ?_
          rintro e w3 ⟨rfl, rfl⟩
          go_wp2_with fail
          refine (HTO.out _).mono ?_
          rintro e w3 ⟨rfl, hb⟩
          have k2 := blk_later HK4.out hb
          have d0 := cell_c k2 0
          have d1 := cell_c k2 1
          have f0 := cell_f k2 0
          have f1 := cell_f k2 1
          have hz3 : w.heap.size + 1 < w3.heap.size := Nat.lt_of_lt_of_le hz2 hb.size
          have HB3 := Lib.hid (HB2.out.trans (hb.mono HB2.out.size))
          clear hb k2
          go_wp2_with fail
          refine bodyPost_ret (v := .tuple #[monV (-(SQ : Int)) cur, .int .i64 TE]) ?_ rfl ?_
          · have hres : Tryd.f10.results = #[.cell 8 23, .tmp 9] := by kernel_rfl
            simp only [results, hres]
            go_simp
            rfl
          · exact ⟨by rw [HFIN.out.1, HFIN.out.2], (HB3.out.setCell (p := ⟨w.heap.size + 1, 0, none⟩) (by simp) _).setCell (p := ⟨w.heap.size + 1, 1, none⟩) (by simp) _⟩
        · have y1 : decide (a < 0) = false := decide_eq_false x1
          have y2 : decide (num < 0) = false := decide_eq_false x2
          clear x1 x2
          go_enter Tryd.func10, Tryd.ntmps10
          go_wp2_with fail
          refine (HP.out _).mono ?_
          rintro e w1 ⟨rfl, hb⟩
          obtain ⟨k1, k2, hz, hb1⟩ := box2 hb
          have c0 := cell_c k1 0
          have HK1 := Lib.hid k1
          have HK2 := Lib.hid k2
          have HB1 := Lib.hid hb1
          clear hb k1 k2 hb1
          go_wp2_with fail
          refine (hA.out _).mono ?_
          rintro e w2 ⟨rfl, rfl⟩
          go_wp2_with fail
          refine (hB.out _).mono ?_
          rintro e w2 ⟨rfl, rfl⟩
          go_wp2_with fail
          refine (hMU.out _).mono ?_
          rintro e w2 ⟨rfl, rfl⟩
          go_wp2_with fail
          refine (hDV.out _).mono ?_
          rintro e w2 ⟨rfl, hb⟩
          have k1 := blk_later HK1.out hb
          have c0 := cell_c k1 0
          have c1 := cell_c k1 1
          have HK4 := Lib.hid (blk_later HK2.out hb)
          have hz2 : w.heap.size + 1 < w2.heap.size := Nat.lt_of_lt_of_le hz hb.size
          have HB2 := Lib.hid (HB1.out.trans (hb.mono HB1.out.size))
          clear hb k1
          go_wp2_with fail
          refine (hRN.out _).mono ?_
          rintro e w3 ⟨rfl, rfl⟩
          go_wp2_with fail
          refine (HTO.out _).mono ?_
          rintro e w3 ⟨rfl, hb⟩
          have k2 := blk_later HK4.out hb
          have d0 := cell_c k2 0
          have d1 := cell_c k2 1
          have f0 := cell_f k2 0
          have f1 := cell_f k2 1
          have hz3 : w.heap.size + 1 < w3.heap.size := Nat.lt_of_lt_of_le hz2 hb.size
          have HB3 := Lib.hid (HB2.out.trans (hb.mono HB2.out.size))
          clear hb k2
          go_wp2_with fail
          refine bodyPost_ret (v := .tuple #[monV (SQ : Int) cur, .int .i64 TE]) ?_ rfl ?_
          · have hres : Tryd.f10.results = #[.cell 8 23, .tmp 9] := by kernel_rfl
            simp only [results, hres]
            go_simp
            rfl
          · exact ⟨by rw [HFIN.out.1, HFIN.out.2], (HB3.out.setCell (p := ⟨w.heap.size + 1, 0, none⟩) (by simp) _).setCell (p := ⟨w.heap.size + 1, 1, none⟩) (by simp) _⟩
end Go.Proofs.YtadehobimlpmcaaDoor
