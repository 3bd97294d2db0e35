/- The walk of the reference's Scale, and of MoneyScales. -/
import Derived.Test.YtadehobimlpmcaaDoorAwk
import Derived.Test.YtadehobimlpmcaaDoorOpen
namespace Go.Proofs.YtadehobimlpmcaaDoor
set_option linter.unusedVariables false
open Go.RowKit

set_option maxHeartbeats 1600000 in
theorem rscale_bad (a : Int) (cur : ByteArray) (num den mode : Int) (w : World) (hs : cur.size ≤ maxLen) (hbad : monE a cur ≠ 0 ∨ parB num den mode = false) :
    Calls Tryd.prog 11 #[.agg #[.int .i64 a, .string cur], .int .i64 num, .int .i64 den, .int .i64 mode] w (SclPost a cur num den mode w) := by
  have HP := Lib.hid (fun W => rmon_any a cur W hs)
  obtain ⟨ME, hme⟩ : ∃ ME, monE a cur = ME := ⟨_, rfl⟩
  rw [hme] at HP
  clear hs
  by_cases h1 : ME = 0
  · subst h1
    have hp : parB num den mode = false := by rcases hbad with h | h; exact absurd hme h; exact h
    have HV := Lib.hid (scl_par (a := a) (cur := cur) hme hp)
    have hcase : den < 1 ∨ (¬ den < 1 ∧ 1099511627776 < den) ∨ (¬ den < 1 ∧ ¬ 1099511627776 < den ∧ num < -1099511627776) ∨ (¬ den < 1 ∧ ¬ 1099511627776 < den ∧ ¬ num < -1099511627776 ∧ 1099511627776 < num) ∨ (¬ den < 1 ∧ ¬ 1099511627776 < den ∧ ¬ num < -1099511627776 ∧ ¬ 1099511627776 < num ∧ mode < 1) ∨ (¬ den < 1 ∧ ¬ 1099511627776 < den ∧ ¬ num < -1099511627776 ∧ ¬ 1099511627776 < num ∧ ¬ mode < 1 ∧ 4 < mode) := by
      have : ¬ (1 ≤ den ∧ den ≤ 1099511627776 ∧ -1099511627776 ≤ num ∧ num ≤ 1099511627776 ∧ 1 ≤ mode ∧ mode ≤ 4) := by rw [← parB_iff, hp]; simp
      omega
    clear hbad hme hp
    rcases hcase with q1 | ⟨q1, q2⟩ | ⟨q1, q2, q3⟩ | ⟨q1, q2, q3, q4⟩ | ⟨q1, q2, q3, q4, q5⟩ | ⟨q1, q2, q3, q4, q5, q6⟩
    all_goals
      go_enter Tryd.func11, Tryd.ntmps11
      go_wp2_with fail
      refine (HP.out _).mono ?_
      rintro e w1 ⟨rfl, hb⟩
      obtain ⟨k1, k2, hz, hb1⟩ := box2 hb
      have d0 := cell_c k2 0
      have d1 := cell_c k2 1
      have f0 := cell_f k2 0
      have f1 := cell_f k2 1
      have HB1 := Lib.hid hb1
      clear hb k1 k2 hb1
      go_wp2_with fail
      refine bodyPost_ret (v := .tuple #[zeroM, .int .i64 4]) ?_ rfl ?_
      · have hres : Tryd.f11.results = #[.cell 8 23, .tmp 9] := by kernel_rfl
        simp only [results, hres]
        go_simp
        rfl
      · exact ⟨by rw [HV.out.1, HV.out.2], (HB1.out.setCell (p := ⟨w.heap.size + 1, 0, none⟩) (by simp) _).setCell (p := ⟨w.heap.size + 1, 1, none⟩) (by simp) _⟩
  · have h1' : (ME != 0) = true := bne_iff_ne.2 h1
    have HV := Lib.hid (scl_bad (num := num) (den := den) (mode := mode) hme h1)
    clear h1 hbad hme
    go_enter Tryd.func11, Tryd.ntmps11
    go_wp2_with fail
    refine (HP.out _).mono ?_
    rintro e w1 ⟨rfl, hb⟩
    obtain ⟨k1, k2, hz, hb1⟩ := box2 hb
    have d0 := cell_c k2 0
    have d1 := cell_c k2 1
    have f0 := cell_f k2 0
    have f1 := cell_f k2 1
    have HB1 := Lib.hid hb1
    clear hb k1 k2 hb1
    go_wp2_with fail
    refine bodyPost_ret (v := .tuple #[zeroM, .int .i64 ME]) ?_ rfl ?_
    · have hres : Tryd.f11.results = #[.cell 8 23, .tmp 9] := by kernel_rfl
      simp only [results, hres]
      go_simp
      rfl
    · exact ⟨by rw [HV.out.1, HV.out.2], (HB1.out.setCell (p := ⟨w.heap.size + 1, 0, none⟩) (by simp) _).setCell (p := ⟨w.heap.size + 1, 1, none⟩) (by simp) _⟩
set_option maxHeartbeats 6400000 in
theorem rscale_ok (a : Int) (cur : ByteArray) (num den mode : Int) (w : World) (hs : cur.size ≤ maxLen) (hm0 : monE a cur = 0) (hp : parB num den mode = true) :
    Calls Tryd.prog 11 #[.agg #[.int .i64 a, .string cur], .int .i64 num, .int .i64 den, .int .i64 mode] w (SclPost a cur num den mode w) := by
  have HP := Lib.hid (fun W => rmon_any a cur W hs)
  rw [hm0] at HP
  obtain ⟨p1, p2, p3, p4, p5, p6⟩ := (parB_iff num den mode).1 hp
  obtain ⟨i1, i2⟩ := (inT_iff a).1 (monE_ok hm0).2
  have HOUT := Lib.hid (fun h => scl_out (mode := mode) hm0 hp h)
  have HIN := Lib.hid (fun h => scl_in (mode := mode) hm0 hp h)
  obtain ⟨D, rfl⟩ := Int.eq_ofNat_of_zero_le (show 0 ≤ den by omega)
  obtain ⟨m, rfl⟩ := Int.eq_ofNat_of_zero_le (show 0 ≤ mode by omega)
  have HQ := Lib.hid (show sclQ a num D m = rndQ (a.natAbs * num.natAbs / D) (a.natAbs * num.natAbs % D) D m from rfl)
  have HN := Lib.hid (show sclN a num D m = if decide (a < 0) = decide (num < 0) then (sclQ a num D m : Int) else -(sclQ a num D m : Int) from rfl)
  have hAl : a.natAbs ≤ 4503599627370496 := by omega
  have hBl : num.natAbs ≤ 1099511627776 := by omega
  have hDpos : 0 < D := by omega
  have hDV := Lib.hid (fun W => rdiv_any a.natAbs num.natAbs D 4503599627370496 W hAl (by omega) hDpos (by omega) (by omega))
  have hmx1 : max a (-a) = ((a.natAbs : Nat) : Int) := by omega
  have hmx2 : max num (-num) = ((num.natAbs : Nat) : Int) := by omega
  generalize a.natAbs = A at *
  generalize num.natAbs = B at *
  generalize sclQ a num D m = SQ at *
  generalize sclN a num D m = SN at *
  generalize A * B = PR at *
  obtain ⟨R, hR⟩ : ∃ R, PR % D = R := ⟨_, rfl⟩
  obtain ⟨QC, hQC⟩ : ∃ Q, min (PR / D) (4503599627370496 + 1) = Q := ⟨_, rfl⟩
  have hRD : R < D := by rw [← hR]; exact Nat.mod_lt _ hDpos
  have hQle : QC ≤ 4503599627370497 := by rw [← hQC]; exact Nat.min_le_right _ _
  have hRN := Lib.hid (fun W => rrnd_any QC R D m W hRD (by omega) hQle (by omega) (by omega))
  have h1 := rnd_le (PR / D) R D m
  have h2 := rnd_le QC R D m
  have hsame : PR / D ≤ 4503599627370496 → QC = PR / D := fun h => by omega
  have hfar : 4503599627370496 < PR / D → 4503599627370496 < QC := fun h => by omega
  have hq := HQ.out
  rw [hR] at hq hDV
  rw [hQC] at hDV
  obtain ⟨SC, hSC⟩ : ∃ SC, rndQ QC R D m = SC := ⟨_, rfl⟩
  rw [hSC] at hRN h2
  have key : (SC ≤ 4503599627370496 → SC = SQ) ∧ (4503599627370496 < SC → 4503599627370496 < SQ) := by
    constructor
    · intro h
      have hle : PR / D ≤ 4503599627370496 := by
        rcases Nat.lt_or_ge 4503599627370496 (PR / D) with q | q
        · have := hfar q; omega
        · exact q
      rw [hq, ← hSC, hsame hle]
    · intro h
      rcases Nat.lt_or_ge 4503599627370496 (PR / D) with q | q
      · rw [hq]; omega
      · rw [hq, ← hsame q, hSC]; exact h
  have hSCle : SC ≤ 4503599627370498 := by omega
  have eN : IntKind.i64.wrap (-(SC : Int)) = -(SC : Int) := IntWalk.i64_in _ (by omega)
  have q1 : ¬ (D : Int) < 1 := by omega
  have q2 : ¬ (1099511627776 : Int) < (D : Int) := by omega
  have q3 : ¬ num < -1099511627776 := by omega
  have q4 : ¬ (1099511627776 : Int) < num := by omega
  have q5 : ¬ (m : Int) < 1 := by omega
  have q6 : ¬ (4 : Int) < (m : Int) := by omega
  have KEY := Lib.hid key
  have c52 : ((4503599627370496 : Nat) : Int) = 4503599627370496 := rfl
  rw [c52] at hDV
  clear c52
  clear h1 h2 hsame hfar hq hQC hR hSC key hRD hQle hAl hBl p1 p2 p3 p4 p5 p6 hp hm0 hs HQ hDpos
  by_cases hbig : 4503599627370496 < SC
  · have HV := Lib.hid (HOUT.out (by unfold M52; exact KEY.out.2 hbig))
    have hbig' : (4503599627370496 : Int) < (SC : Int) := by omega
    clear hbig
    go_enter Tryd.func11, Tryd.ntmps11
    go_wp2_with fail
    refine (HP.out _).mono ?_
    rintro e w1 ⟨rfl, hb⟩
    obtain ⟨k1, k2, hz, hb1⟩ := box2 hb
    have c0 := cell_c k1 0
    have c1 := cell_c k1 1
    have d0 := cell_c k2 0
    have d1 := cell_c k2 1
    have f0 := cell_f k2 0
    have f1 := cell_f k2 1
    have HB1 := Lib.hid hb1
    clear hb k1 k2 hb1
    go_wp2_with fail
    refine (hDV.out _).mono ?_
    rintro e w2 ⟨rfl, rfl⟩
    go_wp2_with fail
    refine (hRN.out _).mono ?_
    rintro e w2 ⟨rfl, rfl⟩
    go_wp2_with fail
    refine bodyPost_ret (v := .tuple #[zeroM, .int .i64 4]) ?_ rfl ?_
    · have hres : Tryd.f11.results = #[.cell 8 23, .tmp 9] := by kernel_rfl
      simp only [results, hres]
      go_simp
      rfl
    · exact ⟨by rw [HV.out.1, HV.out.2], (HB1.out.setCell (p := ⟨w.heap.size + 1, 0, none⟩) (by simp) _).setCell (p := ⟨w.heap.size + 1, 1, none⟩) (by simp) _⟩
  · have hSQ := KEY.out.1 (by omega)
    have HV := Lib.hid (HIN.out (by unfold M52; omega))
    have hbig' : ¬ (4503599627370496 : Int) < (SC : Int) := by omega
    have hsg : (a < 0 ∧ num < 0 ∧ SN = (SC : Int)) ∨ (a < 0 ∧ ¬ num < 0 ∧ SN = -(SC : Int)) ∨ (¬ a < 0 ∧ num < 0 ∧ SN = -(SC : Int)) ∨ (¬ a < 0 ∧ ¬ num < 0 ∧ SN = (SC : Int)) := by
      rw [HN.out, hSQ]
      by_cases x1 : a < 0 <;> by_cases x2 : num < 0 <;> simp [x1, x2]
    clear HN HOUT HIN hSQ KEY hbig
    rcases hsg with ⟨x1, x2, rfl⟩ | ⟨x1, x2, rfl⟩ | ⟨x1, x2, rfl⟩ | ⟨x1, x2, rfl⟩
    · have y1 : decide (a < 0) = true := decide_eq_true x1
      have y2 : decide (num < 0) = true := decide_eq_true x2
      clear x1 x2
      go_enter Tryd.func11, Tryd.ntmps11
      go_wp2_with fail
      refine (HP.out _).mono ?_
      rintro e w1 ⟨rfl, hb⟩
      obtain ⟨k1, k2, hz, hb1⟩ := box2 hb
      have c0 := cell_c k1 0
      have c1 := cell_c k1 1
      have d0 := cell_c k2 0
      have d1 := cell_c k2 1
      have f0 := cell_f k2 0
      have f1 := cell_f k2 1
      have HB1 := Lib.hid hb1
      clear hb k1 k2 hb1
      go_wp2_with fail
      refine (hDV.out _).mono ?_
      rintro e w2 ⟨rfl, rfl⟩
      go_wp2_with fail
      refine (hRN.out _).mono ?_
      rintro e w2 ⟨rfl, rfl⟩
      go_wp2_with fail
      refine bodyPost_ret (v := .tuple #[monV (SC : Int) cur, .int .i64 0]) ?_ rfl ?_
      · have hres : Tryd.f11.results = #[.cell 8 23, .tmp 9] := by kernel_rfl
        simp only [results, hres]
        go_simp
        rfl
      · exact ⟨by rw [HV.out.1, HV.out.2], (HB1.out.setCell (p := ⟨w.heap.size + 1, 0, none⟩) (by simp) _).setCell (p := ⟨w.heap.size + 1, 1, none⟩) (by simp) _⟩
    · have y1 : decide (a < 0) = true := decide_eq_true x1
      have y2 : decide (num < 0) = false := decide_eq_false x2
      clear x1 x2
      go_enter Tryd.func11, Tryd.ntmps11
      go_wp2_with fail
      refine (HP.out _).mono ?_
      rintro e w1 ⟨rfl, hb⟩
      obtain ⟨k1, k2, hz, hb1⟩ := box2 hb
      have c0 := cell_c k1 0
      have c1 := cell_c k1 1
      have d0 := cell_c k2 0
      have d1 := cell_c k2 1
      have f0 := cell_f k2 0
      have f1 := cell_f k2 1
      have HB1 := Lib.hid hb1
      clear hb k1 k2 hb1
      go_wp2_with fail
      refine (hDV.out _).mono ?_
      rintro e w2 ⟨rfl, rfl⟩
      go_wp2_with fail
      refine (hRN.out _).mono ?_
      rintro e w2 ⟨rfl, rfl⟩
      go_wp2_with fail
      refine bodyPost_ret (v := .tuple #[monV (-(SC : Int)) cur, .int .i64 0]) ?_ rfl ?_
      · have hres : Tryd.f11.results = #[.cell 8 23, .tmp 9] := by kernel_rfl
        simp only [results, hres]
        go_simp
        rfl
      · exact ⟨by rw [HV.out.1, HV.out.2], (HB1.out.setCell (p := ⟨w.heap.size + 1, 0, none⟩) (by simp) _).setCell (p := ⟨w.heap.size + 1, 1, none⟩) (by simp) _⟩
    · have y1 : decide (a < 0) = false := decide_eq_false x1
      have y2 : decide (num < 0) = true := decide_eq_true x2
      clear x1 x2
      go_enter Tryd.func11, Tryd.ntmps11
      go_wp2_with fail
      refine (HP.out _).mono ?_
      rintro e w1 ⟨rfl, hb⟩
      obtain ⟨k1, k2, hz, hb1⟩ := box2 hb
      have c0 := cell_c k1 0
      have c1 := cell_c k1 1
      have d0 := cell_c k2 0
      have d1 := cell_c k2 1
      have f0 := cell_f k2 0
      have f1 := cell_f k2 1
      have HB1 := Lib.hid hb1
      clear hb k1 k2 hb1
      go_wp2_with fail
      refine (hDV.out _).mono ?_
      rintro e w2 ⟨rfl, rfl⟩
      go_wp2_with fail
      refine (hRN.out _).mono ?_
      rintro e w2 ⟨rfl, rfl⟩
      go_wp2_with fail
      refine bodyPost_ret (v := .tuple #[monV (-(SC : Int)) cur, .int .i64 0]) ?_ rfl ?_
      · have hres : Tryd.f11.results = #[.cell 8 23, .tmp 9] := by kernel_rfl
        simp only [results, hres]
        go_simp
        rfl
      · exact ⟨by rw [HV.out.1, HV.out.2], (HB1.out.setCell (p := ⟨w.heap.size + 1, 0, none⟩) (by simp) _).setCell (p := ⟨w.heap.size + 1, 1, none⟩) (by simp) _⟩
    · have y1 : decide (a < 0) = false := decide_eq_false x1
      have y2 : decide (num < 0) = false := decide_eq_false x2
      clear x1 x2
      go_enter Tryd.func11, Tryd.ntmps11
      go_wp2_with fail
      refine (HP.out _).mono ?_
      rintro e w1 ⟨rfl, hb⟩
      obtain ⟨k1, k2, hz, hb1⟩ := box2 hb
      have c0 := cell_c k1 0
      have c1 := cell_c k1 1
      have d0 := cell_c k2 0
      have d1 := cell_c k2 1
      have f0 := cell_f k2 0
      have f1 := cell_f k2 1
      have HB1 := Lib.hid hb1
      clear hb k1 k2 hb1
      go_wp2_with fail
      refine (hDV.out _).mono ?_
      rintro e w2 ⟨rfl, rfl⟩
      go_wp2_with fail
      refine (hRN.out _).mono ?_
      rintro e w2 ⟨rfl, rfl⟩
      go_wp2_with fail
      refine bodyPost_ret (v := .tuple #[monV (SC : Int) cur, .int .i64 0]) ?_ rfl ?_
      · have hres : Tryd.f11.results = #[.cell 8 23, .tmp 9] := by kernel_rfl
        simp only [results, hres]
        go_simp
        rfl
      · exact ⟨by rw [HV.out.1, HV.out.2], (HB1.out.setCell (p := ⟨w.heap.size + 1, 0, none⟩) (by simp) _).setCell (p := ⟨w.heap.size + 1, 1, none⟩) (by simp) _⟩
theorem rscale_any (a : Int) (cur : ByteArray) (num den mode : Int) (w : World) (hs : cur.size ≤ maxLen) :
    Calls Tryd.prog 11 #[.agg #[.int .i64 a, .string cur], .int .i64 num, .int .i64 den, .int .i64 mode] w (SclPost a cur num den mode w) := by
  by_cases h : monE a cur = 0
  · cases hp : parB num den mode
    · exact rscale_bad a cur num den mode w hs (.inr hp)
    · exact rscale_ok a cur num den mode w hs h hp
  · exact rscale_bad a cur num den mode w hs (.inl h)
theorem sclV_agg (a : Int) (cur : ByteArray) (num den mode : Int) : ∃ n s, sclV a cur num den mode = .agg #[.int .i64 n, .string s] := by
  unfold sclV
  split
  · exact ⟨_, _, rfl⟩
  · exact ⟨_, _, rfl⟩
set_option maxRecDepth 100000 in
set_option maxHeartbeats 12800000 in
theorem moneyScales_walk (w : World) (hw : KW w) (_ : True) (x : Mny) (hx : (Lit.int .i64 x.a).wf = true ∧ x.s.size ≤ maxLen) (num den mode : Int) :
    Calls Tryd.prog 3 #[x.val, .int .i64 num, .int .i64 den, .int .i64 mode] w fun e w' => e = .returned (.bool true) ∧ Below w.heap.size w w' := by
  obtain ⟨a, s⟩ := x
  have hs : s.size ≤ maxLen := hx.2
  show Calls Tryd.prog 3 #[.agg #[.int .i64 a, .string s], .int .i64 num, .int .i64 den, .int .i64 mode] w _
  have hA := fun W => scale_any a s num den mode W hs
  have hB := fun W => rscale_any a s num den mode W hs
  unfold SclPost at hA hB
  have HI := Lib.hid (fun W hW => awake_any W hW)
  have HW := Lib.hid hw
  obtain ⟨n, t, hv⟩ := sclV_agg a s num den mode
  rw [hv] at hA hB
  generalize sclE a s num den mode = E at *
  have HA := Lib.hid hA
  have HB := Lib.hid hB
  have q1 := fun W => eq_same n t W
  clear hA hB hv hw hs hx
  go_enter Tryd.func3, Tryd.ntmps3
  go_wp2_with fail
  refine (HA.out _).mono ?_
  rintro e w1 ⟨rfl, hb⟩
  obtain ⟨k, z0, hb1⟩ := box1 hb
  have B1 := Lib.hid hb1
  have a0 := cell_c k 0
  have a1 := cell_c k 1
  clear hb hb1 k
  go_wp2_with fail
  refine (HB.out _).mono ?_
  rintro e w2 ⟨rfl, hb⟩
  obtain ⟨k, z1, hb1⟩ := box1 hb
  have B2 := Lib.hid (B1.out.trans (hb1.mono B1.out.size))
  have K1 := Lib.hid k
  clear a0 a1
  have a0 := cell_c K1.out 0
  have a1 := cell_c K1.out 1
  clear hb hb1 k
  go_wp2_with fail
  refine (HI.out _ (HW.out.below (B2.out.alloc B2.out.size _))).mono ?_
  rintro e w3 ⟨rfl, hb⟩
  have B3 := Lib.hid (B2.out.trans ((box1 hb).2.2.mono B2.out.size))
  clear hb a0 a1
  go_wp2_with fail
  go_ret
  exact ⟨rfl, B3.out⟩
end Go.Proofs.YtadehobimlpmcaaDoor
