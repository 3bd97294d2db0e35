/- The walks of the reference's well, one, Overlap, contains. -/
import Derived.Test.YtiegoffdbhmfbaaGreatDoorRNm
import Derived.Test.YtiegoffdbhmfbaaGreatDoorMrg
namespace Go.Proofs.YtiegoffdbhmfbaaGreatDoor
set_option linter.unusedVariables false
open Go.RowKit

set_option maxRecDepth 100000 in
set_option maxHeartbeats 3200000 in
theorem well_any (r : Rg) (w : World) (h1 : r.lo.size ≤ maxLen) (h2 : r.hi.size ≤ maxLen) : Calls Tryz.prog 67 #[.agg (rgC r)] w fun e w' => e = .returned (.bool (formB r.lo r.hi)) ∧ Below w.heap.size w w' := by
  obtain ⟨lo, hi, is, pr⟩ := r
  unfold rgC
  simp only at h1 h2 ⊢
  have HL := Lib.hid (fun W => r6_any lo W h1)
  have HH := Lib.hid (fun W => r6_any hi W h2)
  have HF : Hid (formB lo hi = (pfxB lo && pfxB hi && decide (lo.size = hi.size))) := Lib.hid rfl
  unfold pfxB at HF
  have HB := Lib.hid (alloc_lt w (.cells #[.string lo, .string hi, .string is, .string pr] 26))
  unfold maxLen at h1 h2
  generalize formB lo hi = F at *
  generalize digsB lo = D1 at *
  generalize digsB hi = D2 at *
  by_cases q1 : 1 ≤ lo.size
  · have d1 : decide ((1 : Int) ≤ (lo.size : Int)) = true := decide_eq_true (by omega)
    by_cases q2 : lo.size ≤ 10
    · have d2 : decide ((lo.size : Int) ≤ 10) = true := decide_eq_true (by omega)
      by_cases q3 : hi.size = lo.size
      · have d3 : ((hi.size : Int) == (lo.size : Int)) = true := by rw [q3]; simp
        have HF2 : Hid (F = (D1 && D2)) := Lib.hid (by rw [HF.out, q3]; simp [q1, q2])
        clear HF q1 q2 q3
        cases D1
        · have HX : Hid (F = false) := Lib.hid (by rw [HF2.out]; rfl)
          go_enter Tryz.func67, Tryz.ntmps67
          go_wp2_with fail
          refine (HL.out _).mono ?_
          rintro e w2 ⟨rfl, rfl⟩
          go_wp2_with fail
          go_ret
          exact ⟨by rw [HX.out]; rfl, HB.out⟩
        · have HX : Hid (F = D2) := Lib.hid (by rw [HF2.out]; rfl)
          go_enter Tryz.func67, Tryz.ntmps67
          go_wp2_with fail
          refine (HL.out _).mono ?_
          rintro e w2 ⟨rfl, rfl⟩
          go_wp2_with fail
          refine (HH.out _).mono ?_
          rintro e w2 ⟨rfl, rfl⟩
          go_wp2_with fail
          go_ret
          exact ⟨by rw [HX.out]; rfl, HB.out⟩
      · have d3 : ((hi.size : Int) == (lo.size : Int)) = false := beq_eq_false_iff_ne.2 (by omega)
        have HX : Hid (F = false) := Lib.hid (by rw [HF.out, decide_eq_false (show ¬ lo.size = hi.size from fun h => q3 h.symm), Bool.and_false])
        clear HF q1 q2 q3
        go_enter Tryz.func67, Tryz.ntmps67
        go_wp2_with fail
        go_ret
        exact ⟨by rw [HX.out]; rfl, HB.out⟩
    · have d2 : decide ((lo.size : Int) ≤ 10) = false := decide_eq_false (by omega)
      have HX : Hid (F = false) := Lib.hid (by rw [HF.out, decide_eq_false q2]; simp)
      clear HF q1 q2
      go_enter Tryz.func67, Tryz.ntmps67
      go_wp2_with fail
      go_ret
      exact ⟨by rw [HX.out]; rfl, HB.out⟩
  · have d1 : decide ((1 : Int) ≤ (lo.size : Int)) = false := decide_eq_false (by omega)
    have HX : Hid (F = false) := Lib.hid (by rw [HF.out, decide_eq_false q1]; simp)
    clear HF q1
    go_enter Tryz.func67, Tryz.ntmps67
    go_wp2_with fail
    go_ret
    exact ⟨by rw [HX.out]; rfl, HB.out⟩
set_option maxRecDepth 100000 in
set_option maxHeartbeats 3200000 in
theorem one_any (r : Rg) (w : World) (hk : RgOk r) : Calls Tryz.prog 51 #[.agg (rgC r)] w fun e w' => e = .returned (.int .i64 (badOne r)) ∧ Below w.heap.size w w' := by
  obtain ⟨lo, hi, is, pr⟩ := r
  obtain ⟨s1, s2, s3, s4⟩ := hk
  simp only at s1 s2 s3 s4
  have HFM := Lib.hid (fun W => well_any ⟨lo, hi, is, pr⟩ W s1 s2)
  have HN1 := Lib.hid (fun W => rname_any is W s3)
  have HN2 := Lib.hid (fun W => rname_any pr W s4)
  have hBO : Hid (badOne ⟨lo, hi, is, pr⟩ = if formB lo hi = false then 2 else if gtS lo hi = true then 4 else if (!nameB is.data.toList || !nameB pr.data.toList) = true then 5 else 0) := Lib.hid rfl
  generalize badOne ⟨lo, hi, is, pr⟩ = BO at *
  unfold rgC at HFM ⊢
  simp only at HFM ⊢
  clear s1 s2 s3 s4
  cases hf : formB lo hi
  · rw [hf] at HFM hBO
    have HX : Hid (BO = 2) := hBO
    clear hf hBO
    go_enter Tryz.func51, Tryz.ntmps51
    go_wp2_with fail
    refine (HFM.out _).mono ?_
    rintro e w2 ⟨rfl, hb⟩
    have HB9 := Lib.hid (box1 hb).2.2
    clear hb
    go_wp2_with fail
    go_ret
    exact ⟨by rw [HX.out]; rfl, HB9.out⟩
  · rw [hf] at HFM hBO
    cases hg : gtS lo hi
    · rw [hg] at hBO
      have hg' : (!Op.bytesLess lo.toList hi.toList && !(lo.toList == hi.toList)) = false := hg
      cases h1 : nameB is.data.toList
      · rw [h1] at HN1 hBO
        have HX : Hid (BO = 5) := hBO
        clear hf hBO hg h1
        go_enter Tryz.func51, Tryz.ntmps51
        go_wp2_with fail
        refine (HFM.out _).mono ?_
        rintro e w2 ⟨rfl, hb⟩
        have HB9 := Lib.hid (box1 hb).2.2
        have HK2 := Lib.hid (box1 hb).1
        have z0 := cell_c HK2.out 0
        have z1 := cell_c HK2.out 1
        have z2 := cell_c HK2.out 2
        have z3 := cell_c HK2.out 3
        clear hb
        go_wp2_with fail
        refine (HN1.out _).mono ?_
        rintro e w3 ⟨rfl, rfl⟩
        go_wp2_with fail
        go_ret
        exact ⟨by rw [HX.out]; rfl, HB9.out⟩
      · rw [h1] at HN1 hBO
        cases h2 : nameB pr.data.toList
        · rw [h2] at HN2 hBO
          have HX : Hid (BO = 5) := hBO
          clear hf hBO hg h1 h2
          go_enter Tryz.func51, Tryz.ntmps51
          go_wp2_with fail
          refine (HFM.out _).mono ?_
          rintro e w2 ⟨rfl, hb⟩
          have HB9 := Lib.hid (box1 hb).2.2
          have HK2 := Lib.hid (box1 hb).1
          have z0 := cell_c HK2.out 0
          have z1 := cell_c HK2.out 1
          have z2 := cell_c HK2.out 2
          have z3 := cell_c HK2.out 3
          clear hb
          go_wp2_with fail
          refine (HN1.out _).mono ?_
          rintro e w3 ⟨rfl, rfl⟩
          go_wp2_with fail
          refine (HN2.out _).mono ?_
          rintro e w3 ⟨rfl, rfl⟩
          go_wp2_with fail
          go_ret
          exact ⟨by rw [HX.out]; rfl, HB9.out⟩
        · rw [h2] at HN2 hBO
          have HX : Hid (BO = 0) := hBO
          clear hf hBO hg h1 h2
          go_enter Tryz.func51, Tryz.ntmps51
          go_wp2_with fail
          refine (HFM.out _).mono ?_
          rintro e w2 ⟨rfl, hb⟩
          have HB9 := Lib.hid (box1 hb).2.2
          have HK2 := Lib.hid (box1 hb).1
          have z0 := cell_c HK2.out 0
          have z1 := cell_c HK2.out 1
          have z2 := cell_c HK2.out 2
          have z3 := cell_c HK2.out 3
          clear hb
          go_wp2_with fail
          refine (HN1.out _).mono ?_
          rintro e w3 ⟨rfl, rfl⟩
          go_wp2_with fail
          refine (HN2.out _).mono ?_
          rintro e w3 ⟨rfl, rfl⟩
          go_wp2_with fail
          go_ret
          exact ⟨by rw [HX.out]; rfl, HB9.out⟩
    · rw [hg] at hBO
      have hg' : (!Op.bytesLess lo.toList hi.toList && !(lo.toList == hi.toList)) = true := hg
      have HX : Hid (BO = 4) := hBO
      clear hf hBO hg
      go_enter Tryz.func51, Tryz.ntmps51
      go_wp2_with fail
      refine (HFM.out _).mono ?_
      rintro e w2 ⟨rfl, hb⟩
      have HB9 := Lib.hid (box1 hb).2.2
      have HK2 := Lib.hid (box1 hb).1
      have z0 := cell_c HK2.out 0
      have z1 := cell_c HK2.out 1
      have z2 := cell_c HK2.out 2
      have z3 := cell_c HK2.out 3
      clear hb
      go_wp2_with fail
      go_ret
      exact ⟨by rw [HX.out]; rfl, HB9.out⟩
theorem ext_all (s : ByteArray) : s.extract 0 s.size = s := by
  apply ByteArray.ext
  rw [ByteArray.data_extract]
  have : s.size = s.data.size := rfl
  rw [this, Array.extract_size]
theorem clash_le {a b : Rg} (ha : Good a) (hb : Good b) (hz : a.lo.size = b.lo.size) : clash b a = (leS a.lo b.hi && leS b.lo a.hi) := by
  have s1 := ha.sz; have s2 := hb.sz
  rw [leS_val ha.dlo hb.dhi (by omega), leS_val hb.dlo ha.dhi (by omega)]
  have hc := clash_val hb ha
  have l1 := ha.le; have l2 := hb.le
  cases h : clash b a
  · have := hc.1 h hz.symm
    symm
    rw [Bool.and_eq_false_iff, decide_eq_false_iff_not, decide_eq_false_iff_not]
    omega
  · have hn : ¬ NoC b a := fun q => by rw [hc.2 q] at h; cases h
    have : ¬ (valS b.hi < valS a.lo ∨ valS a.hi < valS b.lo) := fun q => hn (fun _ => q)
    symm
    rw [Bool.and_eq_true, decide_eq_true_eq, decide_eq_true_eq]
    omega
set_option maxRecDepth 100000 in
set_option maxHeartbeats 6400000 in
/-- The reference's Overlap at good ranges of one length. -/
theorem rovl_any (a b : Rg) (w : World) (ha : Good a) (hb : Good b) (hz : a.lo.size = b.lo.size) : Calls Tryz.prog 52 #[.agg (rgC a), .agg (rgC b)] w fun e w' => e = .returned (.bool (clash b a)) ∧ Below w.heap.size w w' := by
  have HC := Lib.hid (clash_le ha hb hz)
  have s1 := ha.sz; have s2 := hb.sz; have t1 := ha.ten; have t2 := hb.ten
  have HFA := Lib.hid (fun W => well_any a W (by unfold maxLen; omega) (by unfold maxLen; omega))
  have HFB := Lib.hid (fun W => well_any b W (by unfold maxLen; omega) (by unfold maxLen; omega))
  rw [ha.form] at HFA
  rw [hb.form] at HFB
  have g1 : gtS a.lo a.hi = false := by rw [gtS_val ha.dlo ha.dhi ha.sz.symm]; have := ha.le; simp; omega
  have g2 : gtS b.lo b.hi = false := by rw [gtS_val hb.dlo hb.dhi hb.sz.symm]; have := hb.le; simp; omega
  have x1 := ext_all a.lo
  have x2 : a.hi.extract 0 a.lo.size = a.hi := by rw [← s1]; exact ext_all _
  have x3 : b.lo.extract 0 a.lo.size = b.lo := by rw [hz]; exact ext_all _
  have x4 : b.hi.extract 0 a.lo.size = b.hi := by rw [hz, ← s2]; exact ext_all _
  have e1 : leS a.lo (b.hi.extract 0 a.lo.size) = leS a.lo b.hi := by rw [x4]
  have e2 : leS (b.lo.extract 0 a.lo.size) (a.hi.extract 0 a.lo.size) = leS b.lo a.hi := by rw [x3, x2]
  obtain ⟨al, ah, ai, ap⟩ := a
  obtain ⟨bl, bh, bi, bp⟩ := b
  generalize clash ⟨bl, bh, bi, bp⟩ ⟨al, ah, ai, ap⟩ = CL at *
  unfold rgC at *
  simp only at *
  clear ha hb x1 x2 x3 x4
  have n1 : ¬ (bl.size : Int) < (al.size : Int) := by omega
  have n0 : (0 : Int) ≤ (al.size : Int) := by omega
  have n6 : (al.size : Int) ≤ (al.size : Int) := Int.le_refl _
  have m6 : al.size ≤ al.size := Nat.le_refl _
  have n3 : (al.size : Int) ≤ (bh.size : Int) := by omega
  have n4 : (al.size : Int) ≤ (bl.size : Int) := by omega
  have n5 : (al.size : Int) ≤ (ah.size : Int) := by omega
  have m3 : al.size ≤ bh.size := by omega
  have m4 : al.size ≤ bl.size := by omega
  have m5 : al.size ≤ ah.size := by omega
  have k1 : (!Op.bytesLess al.toList ah.toList && !(al.toList == ah.toList)) = false := g1
  have k2 : (!Op.bytesLess bl.toList bh.toList && !(bl.toList == bh.toList)) = false := g2
  have E2 : Hid ((Op.bytesLess (bl.extract 0 al.size).toList (ah.extract 0 al.size).toList || (bl.extract 0 al.size).toList == (ah.extract 0 al.size).toList) = leS bl ah) := Lib.hid e2
  clear g1 g2 hz s1 s2 t1 t2 e2
  cases h1 : leS al bh
  · rw [h1] at HC e1
    have e1' : (Op.bytesLess al.toList (bh.extract 0 al.size).toList || al.toList == (bh.extract 0 al.size).toList) = false := e1
    have HX : Hid (CL = false) := Lib.hid (by rw [HC.out]; rfl)
    clear h1 HC e1
    go_enter Tryz.func52, Tryz.ntmps52
    go_wp2_with fail
    refine (HFA.out _).mono ?_
    rintro e w2 ⟨rfl, hb⟩
    have HB := Lib.hid (box2 hb)
    have j0 := cell_c HB.out.2.1 0
    have j1 := cell_c HB.out.2.1 1
    have j2 := cell_c HB.out.2.1 2
    have j3 := cell_c HB.out.2.1 3
    clear hb
    go_wp2_with fail
    refine (HFB.out _).mono ?_
    rintro e w3 ⟨rfl, hb⟩
    have HB3 := Lib.hid (HB.out.2.2.trans (hb.mono HB.out.2.2.size))
    have HK3 := Lib.hid (And.intro (blk_later HB.out.1 hb) (blk_later HB.out.2.1 hb))
    clear hb j0 j1 j2 j3
    have j0 := cell_c HK3.out.1 0
    have j1 := cell_c HK3.out.1 1
    have i0 := cell_c HK3.out.2 0
    have i1 := cell_c HK3.out.2 1
    go_wp2_with fail
    go_quiet (fail)
    go_wp2_with fail
    go_ret
    exact ⟨by rw [HX.out]; rfl, dNb HB3.out _⟩
  · rw [h1] at HC e1
    have e1' : (Op.bytesLess al.toList (bh.extract 0 al.size).toList || al.toList == (bh.extract 0 al.size).toList) = true := e1
    have HX : Hid (leS bl ah = CL) := Lib.hid (by rw [HC.out]; rfl)
    clear h1 HC e1
    go_enter Tryz.func52, Tryz.ntmps52
    go_wp2_with fail
    refine (HFA.out _).mono ?_
    rintro e w2 ⟨rfl, hb⟩
    have HB := Lib.hid (box2 hb)
    have j0 := cell_c HB.out.2.1 0
    have j1 := cell_c HB.out.2.1 1
    have j2 := cell_c HB.out.2.1 2
    have j3 := cell_c HB.out.2.1 3
    clear hb
    go_wp2_with fail
    refine (HFB.out _).mono ?_
    rintro e w3 ⟨rfl, hb⟩
    have HB3 := Lib.hid (HB.out.2.2.trans (hb.mono HB.out.2.2.size))
    have HK3 := Lib.hid (And.intro (blk_later HB.out.1 hb) (blk_later HB.out.2.1 hb))
    clear hb j0 j1 j2 j3
    have j0 := cell_c HK3.out.1 0
    have j1 := cell_c HK3.out.1 1
    have i0 := cell_c HK3.out.2 0
    have i1 := cell_c HK3.out.2 1
    go_wp2_with fail
    go_quiet (fail)
    go_wp2_with fail
    go_ret
    exact ⟨by rw [← HX.out, ← E2.out]; rfl, dNb HB3.out _⟩
end Go.Proofs.YtiegoffdbhmfbaaGreatDoor
