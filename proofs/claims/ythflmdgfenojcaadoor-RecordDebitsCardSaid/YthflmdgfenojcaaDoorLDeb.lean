/- The law Debits. -/
import Derived.Test.YthflmdgfenojcaaDoorAwk
namespace Go.Proofs.YthflmdgfenojcaaDoor
set_option linter.unusedVariables false
open Go.RowKit Go.Sort

theorem fit_f {K : Int} {id au aq iss me ca : ByteArray} {a : Int} {cu : ByteArray} {d c : Int} {f : Bool} (h : Rec.Fit ⟨K, id, au, aq, iss, me, ca, a, cu, d, c, f⟩) (K' : Int) (f' : Bool) : Rec.Fit ⟨K', id, au, aq, iss, me, ca, a, cu, d, c, f'⟩ := h
set_option maxRecDepth 100000 in
set_option maxHeartbeats 12800000 in
theorem debits_any (r : Rec) (hr : r.Fit) (w : World) (hw : KW w) : Calls Tryd.prog 4 #[r.val] w fun e w' => e = .returned (.bool true) ∧ Below w.heap.size w w' := by
  obtain ⟨K, id, au, aq, iss, me, ca, a, cu, d, c, f⟩ := r
  have HKW := Lib.hid hw
  have HAW := Lib.hid (fun W hW => awake_any W hW)
  have HSH := Lib.hid (fun W => short_any ⟨K, id, au, aq, iss, me, ca, a, cu, d, c, f⟩ W)
  have HCH := Lib.hid (fun W => chk_any ⟨K, id, au, aq, iss, me, ca, a, cu, d, c, f⟩ hr W)
  have HD0 := Lib.hid (fun W => debit_any ⟨K, id, au, aq, iss, me, ca, a, cu, d, c, f⟩ hr W)
  have HD1 := Lib.hid (fun W => debit_any ⟨5 - K, id, au, aq, iss, me, ca, a, cu, d, c, f⟩ (fit_f hr _ _) W)
  have HD2 := Lib.hid (fun W => debit_any ⟨5 - K, id, au, aq, iss, me, ca, a, cu, d, c, !f⟩ (fit_f hr _ _) W)
  have HBAD := Lib.hid (deb_bad (r := ⟨K, id, au, aq, iss, me, ca, a, cu, d, c, f⟩))
  have HOK := Lib.hid (deb_ok (r := ⟨K, id, au, aq, iss, me, ca, a, cu, d, c, f⟩))
  unfold BPost at HSH
  unfold PtPost at HCH
  unfold IPost at HD0 HD1 HD2
  have e2 : debV ⟨5 - K, id, au, aq, iss, me, ca, a, cu, d, c, !f⟩ = debV ⟨5 - K, id, au, aq, iss, me, ca, a, cu, d, c, f⟩ := rfl
  rw [e2] at HD2
  obtain ⟨K', hK'⟩ : ∃ K' : Int, 5 - K = K' := ⟨_, rfl⟩
  rw [hK'] at HD1 HD2
  generalize debV ⟨K', id, au, aq, iss, me, ca, a, cu, d, c, f⟩ = D1 at *
  generalize debV ⟨K, id, au, aq, iss, me, ca, a, cu, d, c, f⟩ = D at *
  generalize chkE ⟨K, id, au, aq, iss, me, ca, a, cu, d, c, f⟩ = CE at *
  generalize shortB ⟨K, id, au, aq, iss, me, ca, a, cu, d, c, f⟩ = S at *
  unfold Rec.val Rec.cells at *
  dsimp only at *
  clear hw hr e2
  cases S with
  | false =>
    clear hK'
    go_enter Tryd.func4, Tryd.ntmps4
    go_wp2_with fail
    refine (HSH.out _).mono ?_
    rintro e w1 ⟨rfl, hb⟩
    have HB := Lib.hid (box1 hb).2.2
    clear hb
    go_wp2_with fail
    refine (HAW.out _ (HKW.out.below HB.out)).mono ?_
    rintro e w2 ⟨rfl, hb⟩
    have HB := Lib.hid (HB.out.trans (hb.mono HB.out.size))
    clear hb
    go_wp2_with fail
    go_ret
    exact ⟨rfl, HB.out⟩
  | true =>
    cases q : (CE != 0)
    case true =>
      clear hK'
      have hD := HBAD.out (by simpa using q)
      subst hD
      go_enter Tryd.func4, Tryd.ntmps4
      go_wp2_with fail
      refine (HSH.out _).mono ?_
      rintro e w1 ⟨rfl, hb⟩
      have HB := Lib.hid (box1 hb).2.2
      have HK := Lib.hid (box1 hb).1
      clear hb
      obtain ⟨-, k0, k1, k2, k3, k4, k5, k6, k7, k8, k9, k10, k11⟩ := row12 (Below.refl _ _) HK.out
      go_wp2_with fail
      refine (HD0.out _).mono ?_
      rintro e w2 ⟨rfl, hb⟩
      have HB := Lib.hid (HB.out.trans (hb.mono HB.out.size))
      have HK := Lib.hid (blk_later HK.out hb)
      clear hb k0 k1 k2 k3 k4 k5 k6 k7 k8 k9 k10 k11
      obtain ⟨-, k0, k1, k2, k3, k4, k5, k6, k7, k8, k9, k10, k11⟩ := row12 (Below.refl _ _) HK.out
      go_wp2_with fail
      refine (HCH.out _).mono ?_
      rintro e w3 ⟨rfl, hb⟩
      have HB := Lib.hid (HB.out.trans (hb.mono HB.out.size))
      clear hb k0 k1 k2 k3 k4 k5 k6 k7 k8 k9 k10 k11
      go_wp2_with fail
      refine (HAW.out _ (HKW.out.below HB.out)).mono ?_
      rintro e w4 ⟨rfl, hb⟩
      have HB := Lib.hid (HB.out.trans (hb.mono HB.out.size))
      clear hb
      go_wp2_with fail
      go_ret
      exact ⟨rfl, HB.out⟩
    case false =>
      have h0 : CE = 0 := by simpa using q
      subst h0
      obtain ⟨d1, a1, a2, k1', k4', d2⟩ := HOK.out rfl
      have hc : (K = 1 ∧ K' = 4 ∧ D = a) ∨ (K = 2 ∧ K' = 3 ∧ D = -a) ∨ (K = 3 ∧ K' = 2 ∧ D = -a) ∨ (K = 4 ∧ K' = 1 ∧ D = a) := by omega
      have n1 : (-a != a) = true := by simp; omega
      have n2 : ¬ a < 1 := by omega
      have n3 : 0 < a := by omega
      have n5 : ¬ a < 0 := by omega
      have n6 : decide (a < 0) = false := decide_eq_false (by omega)
      have n4 : ¬ 0 < -a := by omega
      clear d1 d2 k1' k4' q hK'
      rcases hc with ⟨rfl, rfl, rfl⟩ | ⟨rfl, rfl, rfl⟩ | ⟨rfl, rfl, rfl⟩ | ⟨rfl, rfl, rfl⟩
      all_goals
        go_enter Tryd.func4, Tryd.ntmps4
        go_wp2_with fail
        refine (HSH.out _).mono ?_
        rintro e w1 ⟨rfl, hb⟩
        have HB := Lib.hid (box1 hb).2.2
        have HK := Lib.hid (box1 hb).1
        clear hb
        obtain ⟨-, k0, k1, k2, k3, k4, k5, k6, k7, k8, k9, k10, k11⟩ := row12 (Below.refl _ _) HK.out
        go_wp2_with fail
        refine (HD0.out _).mono ?_
        rintro e w2 ⟨rfl, hb⟩
        have HB := Lib.hid (HB.out.trans (hb.mono HB.out.size))
        have HK := Lib.hid (blk_later HK.out hb)
        clear hb k0 k1 k2 k3 k4 k5 k6 k7 k8 k9 k10 k11
        obtain ⟨-, k0, k1, k2, k3, k4, k5, k6, k7, k8, k9, k10, k11⟩ := row12 (Below.refl _ _) HK.out
        go_wp2_with fail
        refine (HCH.out _).mono ?_
        rintro e w3 ⟨rfl, hb⟩
        have HB := Lib.hid (HB.out.trans (hb.mono HB.out.size))
        have HK := Lib.hid (blk_later HK.out hb)
        clear hb k0 k1 k2 k3 k4 k5 k6 k7 k8 k9 k10 k11
        obtain ⟨-, k0, k1, k2, k3, k4, k5, k6, k7, k8, k9, k10, k11⟩ := row12 (Below.refl _ _) HK.out
        have f0 := cell_f HK.out 0
        have f11 := cell_f HK.out 11
        go_wp2_with fail
        refine (HD1.out _).mono ?_
        rintro e w4 ⟨rfl, hb⟩
        have HB := Lib.hid ((HB.out.setCell (p := ⟨w.heap.size, 0, none⟩) (Nat.le_refl _) _).trans (hb.mono (HB.out.setCell (p := ⟨w.heap.size, 0, none⟩) (Nat.le_refl _) _).size))
        have hk := blk_later (heap_setCell_same _ w.heap.size 0 _ _ _ HK.out) hb
        have k0' := cell_c hk 0
        have k1' := cell_c hk 1
        have k2' := cell_c hk 2
        have k3' := cell_c hk 3
        have k4' := cell_c hk 4
        have k5' := cell_c hk 5
        have k6' := cell_c hk 6
        have k7' := cell_c hk 7
        have k8' := cell_c hk 8
        have k9' := cell_c hk 9
        have k10' := cell_c hk 10
        have k11' := cell_c hk 11
        have f11' := cell_f hk 11
        have HK := Lib.hid hk
        clear hb hk k0 k1 k2 k3 k4 k5 k6 k7 k8 k9 k10 k11 f0 f11
        go_wp2_with fail
        have HN6 := Lib.hid n6
        refine (HD2.out _).mono ?_
        rintro e w5 ⟨rfl, hb⟩
        have HB := Lib.hid ((HB.out.setCell (p := ⟨w.heap.size, 11, none⟩) (Nat.le_refl _) _).trans (hb.mono (HB.out.setCell (p := ⟨w.heap.size, 11, none⟩) (Nat.le_refl _) _).size))
        clear hb k0' k1' k2' k3' k4' k5' k6' k7' k8' k9' k10' k11' f11'
        go_wp2_with fail
        refine (HAW.out _ (HKW.out.below HB.out)).mono ?_
        rintro e w6 ⟨rfl, hb⟩
        have HB := Lib.hid (HB.out.trans (hb.mono HB.out.size))
        clear hb
        go_wp2_with fail
        go_ret
        exact ⟨by first | rfl | (rw [HN6.out]; rfl) | (simp [HN6.out]; done), HB.out⟩
end Go.Proofs.YthflmdgfenojcaaDoor
