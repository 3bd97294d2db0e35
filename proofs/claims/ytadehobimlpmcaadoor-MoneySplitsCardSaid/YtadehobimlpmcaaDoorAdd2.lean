/- The walks of Add, Sub and Cmp: the reference's, and the program's Sub and Cmp; usd. -/
import Derived.Test.YtadehobimlpmcaaDoorAdd
import Derived.Test.YtadehobimlpmcaaDoorRmon
namespace Go.Proofs.YtadehobimlpmcaaDoor
set_option linter.unusedVariables false
open Go.RowKit

set_option maxHeartbeats 1600000 in
theorem sub_any (a : Int) (s : ByteArray) (b : Int) (t : ByteArray) (w : World) (hs : s.size ≤ maxLen) (ht : t.size ≤ maxLen) :
    Calls Tryd.prog 22 #[.agg #[.int .i64 a, .string s], .agg #[.int .i64 b, .string t]] w (CombPost (pairE a s b t) (a - b) s w) := by
  have HP := Lib.hid (fun W => pair_any a s b t W hs ht)
  have HR := Lib.hid (pairE_ok a s b t)
  have HT := Lib.hid (fun W => tot_any (a - b) s W)
  obtain ⟨N, hN⟩ : ∃ N, a - b = N := ⟨_, rfl⟩
  rw [hN] at HT ⊢
  generalize pairE a s b t = PE at *
  clear hs ht
  by_cases h1 : PE = 0
  · subst h1
    obtain ⟨⟨r1, r2⟩, ⟨r3, r4⟩, -, -⟩ := HR.out rfl
    clear HR
    have hN' : IntKind.i64.wrap (a - b) = N := by rw [IntWalk.i64_in _ (by omega)]; exact hN
    have HN := Lib.hid hN
    clear hN
    cases hi : inT N
    · have HV := Lib.hid (comb_out (s := s) hi)
      have et : totE N = 4 ∧ totV N s = zeroM := by unfold totE totV; rw [hi]; exact ⟨rfl, rfl⟩
      rw [et.1, et.2] at HT
      clear et
      unfold zeroM at HT
      clear hi r1 r2 r3 r4
      go_enter Tryd.func22, Tryd.ntmps22
      go_wp2_with fail
      refine (HP.out _).mono ?_
      rintro e w1 ⟨rfl, hb⟩
      obtain ⟨k1, k2, k3, hz, hb1⟩ := box3 hb
      have a0 := cell_c k1 0
      have a1 := cell_c k1 1
      have b0 := cell_c k2 0
      have d0 := cell_c k3 0
      have d1 := cell_c k3 1
      have f0 := cell_f k3 0
      have f1 := cell_f k3 1
      have HB1 := Lib.hid hb1
      have HK3 := Lib.hid k3
      clear hb k1 k2 k3 hb1
      go_wp2_with fail
      refine (HT.out _).mono ?_
      rintro e w2 ⟨rfl, hb⟩
      have k3 := blk_later HK3.out hb
      have hz2 : w.heap.size + 2 < w2.heap.size := Nat.lt_of_lt_of_le hz hb.size
      have d0 := cell_c k3 0
      have d1 := cell_c k3 1
      have f0 := cell_f k3 0
      have f1 := cell_f k3 1
      have HB2 := Lib.hid (HB1.out.trans (hb.mono HB1.out.size))
      clear hb k3
      go_wp2_with fail
      refine bodyPost_ret (v := .tuple #[zeroM, .int .i64 4]) ?_ rfl ?_
      · have hres : Tryd.f22.results = #[.cell 4 23, .tmp 5] := by kernel_rfl
        simp only [results, hres]
        go_simp
        rfl
      · exact ⟨by rw [HV.out.1, HV.out.2], (HB2.out.setCell (p := ⟨w.heap.size + 2, 0, none⟩) (by simp) _).setCell (p := ⟨w.heap.size + 2, 1, none⟩) (by simp) _⟩
    · have HV := Lib.hid (comb_in (s := s) hi)
      have et : totE N = 0 ∧ totV N s = monV N s := by unfold totE totV; rw [hi]; exact ⟨rfl, rfl⟩
      rw [et.1, et.2] at HT
      clear et
      unfold monV at HT
      clear hi r1 r2 r3 r4
      go_enter Tryd.func22, Tryd.ntmps22
      go_wp2_with fail
      refine (HP.out _).mono ?_
      rintro e w1 ⟨rfl, hb⟩
      obtain ⟨k1, k2, k3, hz, hb1⟩ := box3 hb
      have a0 := cell_c k1 0
      have a1 := cell_c k1 1
      have b0 := cell_c k2 0
      have d0 := cell_c k3 0
      have d1 := cell_c k3 1
      have f0 := cell_f k3 0
      have f1 := cell_f k3 1
      have HB1 := Lib.hid hb1
      have HK3 := Lib.hid k3
      clear hb k1 k2 k3 hb1
      go_wp2_with fail
      refine (HT.out _).mono ?_
      rintro e w2 ⟨rfl, hb⟩
      have k3 := blk_later HK3.out hb
      have hz2 : w.heap.size + 2 < w2.heap.size := Nat.lt_of_lt_of_le hz hb.size
      have d0 := cell_c k3 0
      have d1 := cell_c k3 1
      have f0 := cell_f k3 0
      have f1 := cell_f k3 1
      have HB2 := Lib.hid (HB1.out.trans (hb.mono HB1.out.size))
      clear hb k3
      go_wp2_with fail
      refine bodyPost_ret (v := .tuple #[monV N s, .int .i64 0]) ?_ rfl ?_
      · have hres : Tryd.f22.results = #[.cell 4 23, .tmp 5] := by kernel_rfl
        simp only [results, hres]
        go_simp
        rfl
      · exact ⟨by rw [HV.out.1, HV.out.2], (HB2.out.setCell (p := ⟨w.heap.size + 2, 0, none⟩) (by simp) _).setCell (p := ⟨w.heap.size + 2, 1, none⟩) (by simp) _⟩
  · have h1' : (PE != 0) = true := bne_iff_ne.2 h1
    have HV := Lib.hid (comb_bad (n := N) (s := s) h1)
    clear h1 HR
    go_enter Tryd.func22, Tryd.ntmps22
    go_wp2_with fail
    refine (HP.out _).mono ?_
    rintro e w1 ⟨rfl, hb⟩
    obtain ⟨k1, k2, k3, hz, hb1⟩ := box3 hb
    have d0 := cell_c k3 0
    have d1 := cell_c k3 1
    have f0 := cell_f k3 0
    have f1 := cell_f k3 1
    have HB1 := Lib.hid hb1
    clear hb k1 k2 k3 hb1
    go_wp2_with fail
    refine bodyPost_ret (v := .tuple #[zeroM, .int .i64 PE]) ?_ rfl ?_
    · have hres : Tryd.f22.results = #[.cell 4 23, .tmp 5] := by kernel_rfl
      simp only [results, hres]
      go_simp
      rfl
    · exact ⟨by rw [HV.out.1, HV.out.2], (HB1.out.setCell (p := ⟨w.heap.size + 2, 0, none⟩) (by simp) _).setCell (p := ⟨w.heap.size + 2, 1, none⟩) (by simp) _⟩
set_option maxHeartbeats 1600000 in
theorem both_any (a : Int) (s : ByteArray) (b : Int) (t : ByteArray) (w : World) (hs : s.size ≤ maxLen) (ht : t.size ≤ maxLen) :
    Calls Tryd.prog 50 #[.agg #[.int .i64 a, .string s], .agg #[.int .i64 b, .string t]] w fun e w' => e = .returned (.int .i64 (pairE a s b t)) ∧ Below w.heap.size w w' := by
  have HA := Lib.hid (fun W => rmon_any a s W hs)
  have HB := Lib.hid (fun W => rmon_any b t W ht)
  have HP := Lib.hid (show pairE a s b t = if monE a s = 0 then (if monE b t = 0 then (if s = t then 0 else 11) else monE b t) else monE a s from rfl)
  generalize monE a s = E1 at *
  generalize monE b t = E2 at *
  generalize pairE a s b t = PE at *
  clear hs ht
  by_cases h1 : E1 = 0
  · subst h1
    by_cases h2 : E2 = 0
    · subst h2
      have hcase : ((s.toList == t.toList) = true ∧ PE = 0) ∨ ((s.toList == t.toList) = false ∧ PE = 11) := by
        have HP' := HP.out
        rw [if_pos rfl, if_pos rfl] at HP'
        by_cases h3 : s = t
        · rw [if_pos h3] at HP'; exact .inl ⟨ba_same s t h3, HP'⟩
        · rw [if_neg h3] at HP'; exact .inr ⟨ba_diff s t h3, HP'⟩
      clear HP
      rcases hcase with ⟨h3', HP'⟩ | ⟨h3', HP'⟩
      all_goals
        have HP' := Lib.hid HP'
        go_enter Tryd.func50, Tryd.ntmps50
        go_wp2_with fail
        refine (HA.out _).mono ?_
        rintro e w1 ⟨rfl, hb⟩
        obtain ⟨k1, k2, hz, hb1⟩ := box2 hb
        have d0 := cell_c k2 0
        have d1 := cell_c k2 1
        have HK1 := Lib.hid k1
        have HK2 := Lib.hid k2
        have HB1 := Lib.hid hb1
        clear hb k1 k2 hb1
        go_wp2_with fail
        refine (HB.out _).mono ?_
        rintro e w2 ⟨rfl, hb⟩
        have e1 := cell_c (blk_later HK1.out hb) 1
        have e2 := cell_c (blk_later HK2.out hb) 1
        have HB2 := Lib.hid (HB1.out.trans (hb.mono HB1.out.size))
        clear hb
        go_wp2_with fail
        go_ret
        exact ⟨by rw [HP'.out]; rfl, HB2.out⟩
    · have h2' : (E2 != 0) = true := bne_iff_ne.2 h2
      have HP' := HP.out
      rw [if_pos rfl, if_neg h2] at HP'
      have HP' := Lib.hid HP'
      clear h2 HP
      go_enter Tryd.func50, Tryd.ntmps50
      go_wp2_with fail
      refine (HA.out _).mono ?_
      rintro e w1 ⟨rfl, hb⟩
      obtain ⟨k1, k2, hz, hb1⟩ := box2 hb
      have d0 := cell_c k2 0
      have d1 := cell_c k2 1
      have HK2 := Lib.hid k2
      have HB1 := Lib.hid hb1
      clear hb k1 k2 hb1
      go_wp2_with fail
      refine (HB.out _).mono ?_
      rintro e w2 ⟨rfl, hb⟩
      have k2 := blk_later HK2.out hb
      have d0 := cell_c k2 0
      have d1 := cell_c k2 1
      have HB2 := Lib.hid (HB1.out.trans (hb.mono HB1.out.size))
      clear hb k2
      go_wp2_with fail
      refine (HB.out _).mono ?_
      rintro e w3 ⟨rfl, hb⟩
      have HB3 := Lib.hid (HB2.out.trans (hb.mono HB2.out.size))
      clear hb
      go_wp2_with fail
      go_ret
      exact ⟨by rw [HP'.out]; rfl, HB3.out⟩
  · have h1' : (E1 != 0) = true := bne_iff_ne.2 h1
    have HP' := HP.out
    rw [if_neg h1] at HP'
    have HP' := Lib.hid HP'
    clear h1 HP
    go_enter Tryd.func50, Tryd.ntmps50
    go_wp2_with fail
    refine (HA.out _).mono ?_
    rintro e w1 ⟨rfl, hb⟩
    obtain ⟨k1, k2, hz, hb1⟩ := box2 hb
    have d0 := cell_c k1 0
    have d1 := cell_c k1 1
    have HB1 := Lib.hid hb1
    clear hb k1 k2 hb1
    go_wp2_with fail
    refine (HA.out _).mono ?_
    rintro e w2 ⟨rfl, hb⟩
    have HB2 := Lib.hid (HB1.out.trans (hb.mono HB1.out.size))
    clear hb
    go_wp2_with fail
    go_ret
    exact ⟨by rw [HP'.out]; rfl, HB2.out⟩
set_option maxHeartbeats 1600000 in
theorem radd_any (a : Int) (s : ByteArray) (b : Int) (t : ByteArray) (w : World) (hs : s.size ≤ maxLen) (ht : t.size ≤ maxLen) :
    Calls Tryd.prog 21 #[.agg #[.int .i64 a, .string s], .agg #[.int .i64 b, .string t]] w (CombPost (pairE a s b t) (a + b) s w) := by
  have HP := Lib.hid (fun W => both_any a s b t W hs ht)
  have HR := Lib.hid (pairE_ok a s b t)
  have HT := Lib.hid (fun W => rin_any (a + b) W)
  obtain ⟨N, hN⟩ : ∃ N, a + b = N := ⟨_, rfl⟩
  rw [hN] at HT ⊢
  generalize pairE a s b t = PE at *
  clear hs ht
  by_cases h1 : PE = 0
  · subst h1
    obtain ⟨⟨r1, r2⟩, ⟨r3, r4⟩, -, -⟩ := HR.out rfl
    clear HR
    have hN' : IntKind.i64.wrap (a + b) = N := by rw [IntWalk.i64_in _ (by omega)]; exact hN
    have HN := Lib.hid hN
    clear hN
    cases hi : inT N
    · have HV := Lib.hid (comb_out (s := s) hi)
      rw [hi] at HT
      clear hi r1 r2 r3 r4
      go_enter Tryd.func21, Tryd.ntmps21
      go_wp2_with fail
      refine (HP.out _).mono ?_
      rintro e w1 ⟨rfl, hb⟩
      obtain ⟨k1, k2, k3, hz, hb1⟩ := box3 hb
      have a0 := cell_c k1 0
      have a1 := cell_c k1 1
      have b0 := cell_c k2 0
      have d0 := cell_c k3 0
      have d1 := cell_c k3 1
      have f0 := cell_f k3 0
      have f1 := cell_f k3 1
      have HB1 := Lib.hid hb1
      have HK3 := Lib.hid k3
      clear hb k1 k2 k3 hb1
      go_wp2_with fail
      refine (HT.out _).mono ?_
      rintro e w2 ⟨rfl, rfl⟩
      go_wp2_with fail
      refine bodyPost_ret (v := .tuple #[zeroM, .int .i64 4]) ?_ rfl ?_
      · have hres : Tryd.f21.results = #[.cell 4 23, .tmp 5] := by kernel_rfl
        simp only [results, hres]
        go_simp
        rfl
      · exact ⟨by rw [HV.out.1, HV.out.2], (HB1.out.setCell (p := ⟨w.heap.size + 2, 0, none⟩) (by simp) _).setCell (p := ⟨w.heap.size + 2, 1, none⟩) (by simp) _⟩
    · have HV := Lib.hid (comb_in (s := s) hi)
      rw [hi] at HT
      clear hi r1 r2 r3 r4
      go_enter Tryd.func21, Tryd.ntmps21
      go_wp2_with fail
      refine (HP.out _).mono ?_
      rintro e w1 ⟨rfl, hb⟩
      obtain ⟨k1, k2, k3, hz, hb1⟩ := box3 hb
      have a0 := cell_c k1 0
      have a1 := cell_c k1 1
      have b0 := cell_c k2 0
      have d0 := cell_c k3 0
      have d1 := cell_c k3 1
      have f0 := cell_f k3 0
      have f1 := cell_f k3 1
      have HB1 := Lib.hid hb1
      have HK3 := Lib.hid k3
      clear hb k1 k2 k3 hb1
      go_wp2_with fail
      refine (HT.out _).mono ?_
      rintro e w2 ⟨rfl, rfl⟩
      go_wp2_with fail
      refine bodyPost_ret (v := .tuple #[monV N s, .int .i64 0]) ?_ rfl ?_
      · have hres : Tryd.f21.results = #[.cell 4 23, .tmp 5] := by kernel_rfl
        simp only [results, hres]
        go_simp
        rfl
      · exact ⟨by rw [HV.out.1, HV.out.2], (HB1.out.setCell (p := ⟨w.heap.size + 2, 0, none⟩) (by simp) _).setCell (p := ⟨w.heap.size + 2, 1, none⟩) (by simp) _⟩
  · have h1' : (PE != 0) = true := bne_iff_ne.2 h1
    have HV := Lib.hid (comb_bad (n := N) (s := s) h1)
    clear h1 HR
    go_enter Tryd.func21, Tryd.ntmps21
    go_wp2_with fail
    refine (HP.out _).mono ?_
    rintro e w1 ⟨rfl, hb⟩
    obtain ⟨k1, k2, k3, hz, hb1⟩ := box3 hb
    have d0 := cell_c k3 0
    have d1 := cell_c k3 1
    have f0 := cell_f k3 0
    have f1 := cell_f k3 1
    have HB1 := Lib.hid hb1
    clear hb k1 k2 k3 hb1
    go_wp2_with fail
    refine bodyPost_ret (v := .tuple #[zeroM, .int .i64 PE]) ?_ rfl ?_
    · have hres : Tryd.f21.results = #[.cell 4 23, .tmp 5] := by kernel_rfl
      simp only [results, hres]
      go_simp
      rfl
    · exact ⟨by rw [HV.out.1, HV.out.2], (HB1.out.setCell (p := ⟨w.heap.size + 2, 0, none⟩) (by simp) _).setCell (p := ⟨w.heap.size + 2, 1, none⟩) (by simp) _⟩
set_option maxHeartbeats 1600000 in
theorem rsub_any (a : Int) (s : ByteArray) (b : Int) (t : ByteArray) (w : World) (hs : s.size ≤ maxLen) (ht : t.size ≤ maxLen) :
    Calls Tryd.prog 23 #[.agg #[.int .i64 a, .string s], .agg #[.int .i64 b, .string t]] w (CombPost (pairE a s b t) (a - b) s w) := by
  have HP := Lib.hid (fun W => both_any a s b t W hs ht)
  have HR := Lib.hid (pairE_ok a s b t)
  have HT := Lib.hid (fun W => rin_any (a - b) W)
  obtain ⟨N, hN⟩ : ∃ N, a - b = N := ⟨_, rfl⟩
  rw [hN] at HT ⊢
  generalize pairE a s b t = PE at *
  clear hs ht
  by_cases h1 : PE = 0
  · subst h1
    obtain ⟨⟨r1, r2⟩, ⟨r3, r4⟩, -, -⟩ := HR.out rfl
    clear HR
    have hN' : IntKind.i64.wrap (a - b) = N := by rw [IntWalk.i64_in _ (by omega)]; exact hN
    have HN := Lib.hid hN
    clear hN
    cases hi : inT N
    · have HV := Lib.hid (comb_out (s := s) hi)
      rw [hi] at HT
      clear hi r1 r2 r3 r4
      go_enter Tryd.func23, Tryd.ntmps23
      go_wp2_with fail
      refine (HP.out _).mono ?_
      rintro e w1 ⟨rfl, hb⟩
      obtain ⟨k1, k2, k3, hz, hb1⟩ := box3 hb
      have a0 := cell_c k1 0
      have a1 := cell_c k1 1
      have b0 := cell_c k2 0
      have d0 := cell_c k3 0
      have d1 := cell_c k3 1
      have f0 := cell_f k3 0
      have f1 := cell_f k3 1
      have HB1 := Lib.hid hb1
      have HK3 := Lib.hid k3
      clear hb k1 k2 k3 hb1
      go_wp2_with fail
      refine (HT.out _).mono ?_
      rintro e w2 ⟨rfl, rfl⟩
      go_wp2_with fail
      refine bodyPost_ret (v := .tuple #[zeroM, .int .i64 4]) ?_ rfl ?_
      · have hres : Tryd.f23.results = #[.cell 4 23, .tmp 5] := by kernel_rfl
        simp only [results, hres]
        go_simp
        rfl
      · exact ⟨by rw [HV.out.1, HV.out.2], (HB1.out.setCell (p := ⟨w.heap.size + 2, 0, none⟩) (by simp) _).setCell (p := ⟨w.heap.size + 2, 1, none⟩) (by simp) _⟩
    · have HV := Lib.hid (comb_in (s := s) hi)
      rw [hi] at HT
      clear hi r1 r2 r3 r4
      go_enter Tryd.func23, Tryd.ntmps23
      go_wp2_with fail
      refine (HP.out _).mono ?_
      rintro e w1 ⟨rfl, hb⟩
      obtain ⟨k1, k2, k3, hz, hb1⟩ := box3 hb
      have a0 := cell_c k1 0
      have a1 := cell_c k1 1
      have b0 := cell_c k2 0
      have d0 := cell_c k3 0
      have d1 := cell_c k3 1
      have f0 := cell_f k3 0
      have f1 := cell_f k3 1
      have HB1 := Lib.hid hb1
      have HK3 := Lib.hid k3
      clear hb k1 k2 k3 hb1
      go_wp2_with fail
      refine (HT.out _).mono ?_
      rintro e w2 ⟨rfl, rfl⟩
      go_wp2_with fail
      refine bodyPost_ret (v := .tuple #[monV N s, .int .i64 0]) ?_ rfl ?_
      · have hres : Tryd.f23.results = #[.cell 4 23, .tmp 5] := by kernel_rfl
        simp only [results, hres]
        go_simp
        rfl
      · exact ⟨by rw [HV.out.1, HV.out.2], (HB1.out.setCell (p := ⟨w.heap.size + 2, 0, none⟩) (by simp) _).setCell (p := ⟨w.heap.size + 2, 1, none⟩) (by simp) _⟩
  · have h1' : (PE != 0) = true := bne_iff_ne.2 h1
    have HV := Lib.hid (comb_bad (n := N) (s := s) h1)
    clear h1 HR
    go_enter Tryd.func23, Tryd.ntmps23
    go_wp2_with fail
    refine (HP.out _).mono ?_
    rintro e w1 ⟨rfl, hb⟩
    obtain ⟨k1, k2, k3, hz, hb1⟩ := box3 hb
    have d0 := cell_c k3 0
    have d1 := cell_c k3 1
    have f0 := cell_f k3 0
    have f1 := cell_f k3 1
    have HB1 := Lib.hid hb1
    clear hb k1 k2 k3 hb1
    go_wp2_with fail
    refine bodyPost_ret (v := .tuple #[zeroM, .int .i64 PE]) ?_ rfl ?_
    · have hres : Tryd.f23.results = #[.cell 4 23, .tmp 5] := by kernel_rfl
      simp only [results, hres]
      go_simp
      rfl
    · exact ⟨by rw [HV.out.1, HV.out.2], (HB1.out.setCell (p := ⟨w.heap.size + 2, 0, none⟩) (by simp) _).setCell (p := ⟨w.heap.size + 2, 1, none⟩) (by simp) _⟩
end Go.Proofs.YtadehobimlpmcaaDoor
