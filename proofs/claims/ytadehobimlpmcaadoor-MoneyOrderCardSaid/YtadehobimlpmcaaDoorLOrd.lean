/- The walk of MoneyOrder. -/
import Derived.Test.YtadehobimlpmcaaDoorAwk
import Derived.Test.YtadehobimlpmcaaDoorOpen
namespace Go.Proofs.YtadehobimlpmcaaDoor
set_option linter.unusedVariables false
open Go.RowKit

theorem rnd_zero (q d m : Nat) (h : 0 < d) : rndQ q 0 d m = q := by
  apply rnd_no
  unfold upQ
  have h1 : decide (0 < 0) = false := rfl
  have h2 : decide (d ≤ 2 * 0) = false := decide_eq_false (by omega)
  have h3 : decide (d < 2 * 0) = false := decide_eq_false (by omega)
  have h4 : decide (2 * 0 = d) = false := decide_eq_false (by omega)
  rw [h1, h2, h3, h4]; simp
/-- Scaling by num / num changes nothing. -/
theorem scl_same (a : Int) (s : ByteArray) (num mode : Int) (h : monE a s = 0) (hn : 1 ≤ num) (hn2 : num ≤ 1099511627776) (hm : 1 ≤ mode) (hm2 : mode ≤ 4) : sclE a s num num mode = 0 ∧ sclV a s num num mode = monV a s := by
  obtain ⟨i1, i2⟩ := (inT_iff a).1 (monE_ok h).2
  have hp : parB num num mode = true := (parB_iff num num mode).2 ⟨hn, hn2, by omega, hn2, hm, hm2⟩
  obtain ⟨D, rfl⟩ := Int.eq_ofNat_of_zero_le (show 0 ≤ num by omega)
  have hD : 0 < D := by omega
  have hq : sclQ a D D mode = a.natAbs := by
    unfold sclQ
    have e1 : (D : Int).natAbs = D := rfl
    have e2 : (D : Int).toNat = D := rfl
    rw [e1, e2, Nat.mul_div_cancel _ hD, Nat.mul_mod_left, rnd_zero _ _ _ hD]
  have hN : sclN a D D mode = a := by
    unfold sclN
    rw [hq, decide_eq_false (show ¬ (D : Int) < 0 by omega)]
    by_cases ha : a < 0
    · rw [decide_eq_true ha, if_neg (by simp)]; omega
    · rw [decide_eq_false ha, if_pos rfl]; omega
  have := scl_in (mode := mode) h hp (by rw [hq]; unfold M52; omega)
  rw [hN] at this
  exact this
theorem pair_zero {a b : Int} {s : ByteArray} (h1 : monE a s = 0) (h2 : monE b s = 0) : pairE a s b s = 0 := by unfold pairE; rw [if_pos h1, if_pos h2, if_pos rfl]
theorem monE_of {a : Int} {s : ByteArray} (h1 : curB s = true) (h2 : inT a = true) : monE a s = 0 := by unfold monE; rw [h1, h2]; rfl
theorem eq_amt (a b : Int) (s : ByteArray) (r : Bool) (h : decide (a = b) = r) (w : World) : (binOp .eql 23 (.agg #[.int .i64 a, .string s]) (.agg #[.int .i64 b, .string s])).run Tryd.prog w = .ok (.bool r) w := by
  rw [eq_mon, h]; simp
/-- The amounts' blocks, and the rest of memory. -/
structure OrdW (w wr : World) (a : Int) (s : ByteArray) : Prop where
  blk : wr.heap[w.heap.size]? = some (.cells #[.int .i64 a, .string s] 23)
  bel : Below w.heap.size w wr
theorem OrdW.below {w wr w' : World} {a : Int} {s : ByteArray} (h : OrdW w wr a s) (hb : Below wr.heap.size wr w') : OrdW w w' a s :=
  ⟨blk_later h.blk hb, h.bel.trans (hb.mono h.bel.size)⟩
set_option maxRecDepth 100000 in
set_option maxHeartbeats 6400000 in
theorem order_bad (a : Int) (s : ByteArray) (b : Int) (t : ByteArray) (num : Int) (w : World) (hw : KW w) (hs : s.size ≤ maxLen) (ht : t.size ≤ maxLen) (hbad : ¬ (monE a s = 0 ∧ monE b t = 0 ∧ s = t)) :
    Calls Tryd.prog 8 #[.agg #[.int .i64 a, .string s], .agg #[.int .i64 b, .string t], .int .i64 num] w fun e w' => e = .returned (.bool true) ∧ Below w.heap.size w w' := by
  have HA := Lib.hid (fun W => mon_any a s W hs)
  have HB := Lib.hid (fun W => mon_any b t W ht)
  have HI := Lib.hid (fun W hW => awake_any W hW)
  have HW := Lib.hid hw
  generalize monE a s = E1 at *
  generalize monE b t = E2 at *
  clear hs ht hw
  by_cases h1 : E1 = 0
  · subst h1
    by_cases h2 : E2 = 0
    · subst h2
      have h3' := ba_diff s t (fun e => hbad ⟨rfl, rfl, e⟩)
      clear hbad
      go_enter Tryd.func8, Tryd.ntmps8
      go_wp2_with fail
      refine (HA.out _).mono ?_
      rintro e w1 ⟨rfl, hb⟩
      obtain ⟨k1, k2, hz, hb1⟩ := box2 hb
      have d0 := cell_c k2 0
      have d1 := cell_c k2 1
      have HK1 := Lib.hid k1
      have HK2 := Lib.hid k2
      have HB1 := Lib.hid hb1
      clear hb k1 k2 hb1
      go_wp2_with fail
      refine (HB.out _).mono ?_
      rintro e w2 ⟨rfl, hb⟩
      have e1 := cell_c (blk_later HK1.out hb) 1
      have e2 := cell_c (blk_later HK2.out hb) 1
      have HB2 := Lib.hid (HB1.out.trans (hb.mono HB1.out.size))
      clear hb
      go_wp2_with fail
      refine (HI.out _ (HW.out.below HB2.out)).mono ?_
      rintro e w3 ⟨rfl, hb⟩
      have HB3 := Lib.hid (HB2.out.trans (hb.mono HB2.out.size))
      clear hb
      go_wp2_with fail
      go_ret
      exact ⟨rfl, HB3.out⟩
    · have h2' : (E2 != 0) = true := bne_iff_ne.2 h2
      clear h2 hbad
      go_enter Tryd.func8, Tryd.ntmps8
      go_wp2_with fail
      refine (HA.out _).mono ?_
      rintro e w1 ⟨rfl, hb⟩
      obtain ⟨k1, k2, hz, hb1⟩ := box2 hb
      have d0 := cell_c k2 0
      have d1 := cell_c k2 1
      have HB1 := Lib.hid hb1
      clear hb k1 k2 hb1
      go_wp2_with fail
      refine (HB.out _).mono ?_
      rintro e w2 ⟨rfl, hb⟩
      have HB2 := Lib.hid (HB1.out.trans (hb.mono HB1.out.size))
      clear hb
      go_wp2_with fail
      refine (HI.out _ (HW.out.below HB2.out)).mono ?_
      rintro e w3 ⟨rfl, hb⟩
      have HB3 := Lib.hid (HB2.out.trans (hb.mono HB2.out.size))
      clear hb
      go_wp2_with fail
      go_ret
      exact ⟨rfl, HB3.out⟩
  · have h1' : (E1 != 0) = true := bne_iff_ne.2 h1
    clear h1 hbad
    go_enter Tryd.func8, Tryd.ntmps8
    go_wp2_with fail
    refine (HA.out _).mono ?_
    rintro e w1 ⟨rfl, hb⟩
    have HB1 := Lib.hid (box2 hb).2.2.2
    clear hb
    go_wp2_with fail
    refine (HI.out _ (HW.out.below HB1.out)).mono ?_
    rintro e w3 ⟨rfl, hb⟩
    have HB3 := Lib.hid (HB1.out.trans (hb.mono HB1.out.size))
    clear hb
    go_wp2_with fail
    go_ret
    exact ⟨rfl, HB3.out⟩
theorem alloc_lt (w : World) (o : Obj) : Below w.heap.size w (w.alloc o) := (Below.refl _ _).alloc (Nat.le_refl _) _
theorem blk_lt {w : World} {b : Nat} {o : Obj} (h : w.heap[b]? = some o) : b < w.heap.size := by
  rcases Nat.lt_or_ge b w.heap.size with q | q
  · exact q
  · rw [Array.getElem?_eq_none q] at h; cases h
theorem ordScl (a : Int) (s : ByteArray) (num k : Int) (W : World) (hs : s.size ≤ maxLen) (h1 : monE a s = 0) (g1 : 1 ≤ num) (g2 : num ≤ 1099511627776) (g3 : 1 ≤ k) (g4 : k ≤ 4) :
    Calls Tryd.prog 10 #[.agg #[.int .i64 a, .string s], .int .i64 num, .int .i64 num, .int .i64 k] W fun e w' => e = .returned (.tuple #[.agg #[.int .i64 a, .string s], .int .i64 0]) ∧ Below W.heap.size W w' := by
  have h := scale_any a s num num k W hs
  obtain ⟨e1, e2⟩ := scl_same a s num k h1 g1 g2 g3 g4
  unfold SclPost at h
  rw [e1, e2] at h
  exact h
set_option maxRecDepth 100000 in
set_option maxHeartbeats 12800000 in
theorem order_in_ok (a : Int) (s : ByteArray) (b : Int) (num : Int) (w : World) (hw : KW w) (hs : s.size ≤ maxLen) (h1 : monE a s = 0) (h2 : monE b s = 0) (hin : inT (a + b) = true) (hn : 1 ≤ num ∧ num ≤ 1099511627776) :
    Calls Tryd.prog 8 #[.agg #[.int .i64 a, .string s], .agg #[.int .i64 b, .string s], .int .i64 num] w fun e w' => e = .returned (.bool true) ∧ Below w.heap.size w w' := by
  obtain ⟨C1, hc1⟩ : ∃ C, cmpI a b = C := ⟨_, rfl⟩
  obtain ⟨C2, hc2⟩ : ∃ C, cmpI b a = C := ⟨_, rfl⟩
  obtain ⟨r, hreq⟩ : ∃ r, decide (a = b) = r := ⟨_, rfl⟩
  have hcase : (a < b ∧ C1 = -1 ∧ C2 = 1 ∧ r = false) ∨ (¬ a < b ∧ C1 = 0 ∧ C2 = 0 ∧ r = true) ∨ (¬ a < b ∧ C1 = 1 ∧ C2 = -1 ∧ r = false) := by
    rw [← hc1, ← hc2, ← hreq]
    unfold cmpI
    by_cases q : a < b
    · rw [if_pos q, if_neg (by omega), if_pos q, decide_eq_false (by omega)]; exact .inl ⟨q, rfl, rfl, rfl⟩
    · by_cases q2 : b < a
      · rw [if_neg q, if_pos q2, if_pos q2, decide_eq_false (by omega)]; exact .inr (.inr ⟨q, rfl, rfl, rfl⟩)
      · rw [if_neg q, if_neg q2, if_neg q2, if_neg q, decide_eq_true (by omega)]; exact .inr (.inl ⟨q, rfl, rfl, rfl⟩)
  have HA := Lib.hid (fun W => mon_any a s W hs)
  have HB := Lib.hid (fun W => mon_any b s W hs)
  rw [h1] at HA
  rw [h2] at HB
  have hC := fun W => mcmp_any a s b s W hs hs
  have hD := fun W => mcmp_any b s a s W hs hs
  have hE := fun W => add_any a s b s W hs hs
  unfold CmpPost cmpV at hC hD
  unfold CombPost at hE
  rw [pair_zero h1 h2, if_pos rfl, hc1] at hC
  rw [pair_zero h2 h1, if_pos rfl, hc2] at hD
  rw [pair_zero h1 h2, (comb_in (s := s) hin).1, (comb_in (s := s) hin).2] at hE
  unfold monV at hE
  have hia := (inT_iff a).1 (monE_ok h1).2
  have hib := (inT_iff b).1 (monE_ok h2).2
  obtain ⟨SM, hSM⟩ : ∃ SM, a + b = SM := ⟨_, rfl⟩
  have esum : IntKind.i64.wrap (a + b) = SM := by rw [IntWalk.i64_in _ (by omega)]; exact hSM
  rw [hSM] at hE hin
  have h3 : monE SM s = 0 := monE_of (monE_ok h1).1 hin
  have hF := fun W => sub_any SM s b s W hs hs
  unfold CombPost at hF
  have hSa : SM - b = a := by omega
  rw [pair_zero h3 h2, hSa, (comb_in (s := s) (monE_ok h1).2).1, (comb_in (s := s) (monE_ok h1).2).2] at hF
  unfold monV at hF
  have HF := Lib.hid hF
  clear hF hSa h3
  have HSC := Lib.hid (fun W (k : Int) (g3 : 1 ≤ k) (g4 : k ≤ 4) => ordScl a s num k W hs h1 hn.1 hn.2 g3 g4)
  have n1 : ¬ num < 1 := by omega
  have n2 : ¬ 1099511627776 < num := by omega
  clear hn
  have HC := Lib.hid hC
  have HD := Lib.hid hD
  have HE := Lib.hid hE
  have HI := Lib.hid (fun W hW => awake_any W hW)
  have HW := Lib.hid hw
  have q1 := fun W => eq_amt a b s r hreq W
  have q3 := fun W => neq_same a s W
  have hss : (s.toList == s.toList) = true := by simp
  clear hC hD hE hc1 hc2 hreq hs hw hin hia hib h1 h2 hSM
  rcases hcase with ⟨hab, rfl, rfl, rfl⟩ | ⟨hab, rfl, rfl, rfl⟩ | ⟨hab, rfl, rfl, rfl⟩
  all_goals
    go_enter Tryd.func8, Tryd.ntmps8
    go_wp2_with fail
    refine (HA.out _).mono ?_
    rintro e w1 ⟨rfl, hb⟩
    obtain ⟨k1, k2, hz, hb1⟩ := box2 hb
    have KA := Lib.hid k1
    have KB := Lib.hid k2
    have B1 := Lib.hid hb1
    clear hb k1 k2 hb1
    have a0 := cell_c KA.out 0
    have a1 := cell_c KA.out 1
    have b0 := cell_c KB.out 0
    have b1 := cell_c KB.out 1
    go_wp2_with fail
    refine (HB.out _).mono ?_
    rintro e w2 ⟨rfl, hb⟩
    have KA := Lib.hid (blk_later KA.out hb)
    have KB := Lib.hid (blk_later KB.out hb)
    have B2 := Lib.hid (B1.out.trans (hb.mono B1.out.size))
    clear a0 a1 b0 b1 hb
    have a0 := cell_c KA.out 0
    have a1 := cell_c KA.out 1
    have b0 := cell_c KB.out 0
    have b1 := cell_c KB.out 1
    go_wp2_with fail
    refine (HC.out _).mono ?_
    rintro e w3 ⟨rfl, hb⟩
    have KA := Lib.hid (blk_later KA.out hb)
    have KB := Lib.hid (blk_later KB.out hb)
    have B3 := Lib.hid (B2.out.trans (hb.mono B2.out.size))
    clear a0 a1 b0 b1 hb
    have a0 := cell_c KA.out 0
    have a1 := cell_c KA.out 1
    have b0 := cell_c KB.out 0
    have b1 := cell_c KB.out 1
    go_wp2_with fail
    refine (HD.out _).mono ?_
    rintro e w4 ⟨rfl, hb⟩
    have KA := Lib.hid (blk_later KA.out hb)
    have KB := Lib.hid (blk_later KB.out hb)
    have B4 := Lib.hid (B3.out.trans (hb.mono B3.out.size))
    clear a0 a1 b0 b1 hb
    have a0 := cell_c KA.out 0
    have a1 := cell_c KA.out 1
    have b0 := cell_c KB.out 0
    have b1 := cell_c KB.out 1
    go_wp2_with fail
    refine (HE.out _).mono ?_
    rintro e w5 ⟨rfl, hb⟩
    have KA := Lib.hid (blk_later KA.out hb)
    have KB := Lib.hid (blk_later KB.out hb)
    have B5 := Lib.hid (B4.out.trans (hb.mono B4.out.size))
    clear a0 a1 b0 b1 hb
    have a0 := cell_c KA.out 0
    have a1 := cell_c KA.out 1
    have b0 := cell_c KB.out 0
    have b1 := cell_c KB.out 1
    have z5 := blk_lt KA.out
    have y5 := blk_lt KB.out
    go_wp2_with fail
    refine (HF.out _).mono ?_
    rintro e w6 ⟨rfl, hb⟩
    obtain ⟨k, z6, hb1⟩ := box1 hb
    have KA := Lib.hid (blk_later KA.out hb1)
    have KB := Lib.hid (blk_later KB.out hb1)
    have B6 := Lib.hid (B5.out.trans (hb1.mono B5.out.size))
    have c0 := cell_c k 0
    clear a0 a1 b0 b1 hb hb1 k
    have a0 := cell_c KA.out 0
    have a1 := cell_c KA.out 1
    have b0 := cell_c KB.out 0
    have b1 := cell_c KB.out 1
    have x6 := blk_lt KA.out
    have y6 := blk_lt KB.out
    go_wp2_with fail
    have hbe := alloc_lt w6 (.cells #[.int .i64 a, .string s] 23)
    have KA := Lib.hid (blk_later KA.out hbe)
    have BX := Lib.hid (B6.out.alloc B6.out.size (.cells #[.int .i64 a, .string s] 23))
    clear a0 a1 b0 b1 hbe
    clear c0
    generalize w6.alloc (.cells #[.int .i64 a, .string s] 23) = W at *
    have HST : Hid (OrdW w W a s) := Lib.hid ⟨KA.out, BX.out⟩
    go_loopw [15] (fun i wr => ∃ k : Nat, 1 ≤ k ∧ k ≤ 5 ∧ i = .int .i64 k ∧ Hid (OrdW w wr a s)) (fun i _ => 5 - (intOf i).toNat)
    case atStart => exact ⟨1, by omega, by omega, rfl, HST⟩
    case round =>
      obtain ⟨k, hk1, hk5, rfl, hst⟩ := hrel
      by_cases hlt : k ≤ 4
      · have HK := Lib.hid (fun W => HSC.out W (k : Int) (by omega) (by omega))
        have a0 := cell_c hst.out.blk 0
        have a1 := cell_c hst.out.blk 1
        have hk4 : (k : Int) ≤ 4 := by omega
        go_wp2_with fail
        refine (HK.out _).mono ?_
        rintro e w7 ⟨rfl, hb⟩
        have HS7 := Lib.hid (hst.out.below hb)
        clear a0 a1 hb
        have a0 := cell_c HS7.out.blk 0
        have a1 := cell_c HS7.out.blk 1
        have z7 := blk_lt HS7.out.blk
        have HS8 := Lib.hid (HS7.out.below (alloc_lt w7 (.cells #[.int .i64 a, .string s] 23)))
        go_wp2_with fail
        go_roundw
        case rel => exact ⟨k + 1, by omega, by omega, by go_num, HS8⟩
        case measure => simp [intOf]; omega
      · have hk4 : ¬ (k : Int) ≤ 4 := by omega
        go_wp2_with fail
        refine (HI.out _ (HW.out.below hst.out.bel)).mono ?_
        rintro e w8 ⟨rfl, hb⟩
        have B8 := Lib.hid (hst.out.below hb).bel
        clear hb
        go_wp2_with fail
        go_ret
        exact ⟨rfl, B8.out⟩
set_option maxRecDepth 100000 in
set_option maxHeartbeats 12800000 in
theorem order_in_few (a : Int) (s : ByteArray) (b : Int) (num : Int) (w : World) (hw : KW w) (hs : s.size ≤ maxLen) (h1 : monE a s = 0) (h2 : monE b s = 0) (hin : inT (a + b) = true) (hn : num < 1 ∨ (¬ num < 1 ∧ 1099511627776 < num)) :
    Calls Tryd.prog 8 #[.agg #[.int .i64 a, .string s], .agg #[.int .i64 b, .string s], .int .i64 num] w fun e w' => e = .returned (.bool true) ∧ Below w.heap.size w w' := by
  obtain ⟨C1, hc1⟩ : ∃ C, cmpI a b = C := ⟨_, rfl⟩
  obtain ⟨C2, hc2⟩ : ∃ C, cmpI b a = C := ⟨_, rfl⟩
  obtain ⟨r, hreq⟩ : ∃ r, decide (a = b) = r := ⟨_, rfl⟩
  have hcase : (a < b ∧ C1 = -1 ∧ C2 = 1 ∧ r = false) ∨ (¬ a < b ∧ C1 = 0 ∧ C2 = 0 ∧ r = true) ∨ (¬ a < b ∧ C1 = 1 ∧ C2 = -1 ∧ r = false) := by
    rw [← hc1, ← hc2, ← hreq]
    unfold cmpI
    by_cases q : a < b
    · rw [if_pos q, if_neg (by omega), if_pos q, decide_eq_false (by omega)]; exact .inl ⟨q, rfl, rfl, rfl⟩
    · by_cases q2 : b < a
      · rw [if_neg q, if_pos q2, if_pos q2, decide_eq_false (by omega)]; exact .inr (.inr ⟨q, rfl, rfl, rfl⟩)
      · rw [if_neg q, if_neg q2, if_neg q2, if_neg q, decide_eq_true (by omega)]; exact .inr (.inl ⟨q, rfl, rfl, rfl⟩)
  have HA := Lib.hid (fun W => mon_any a s W hs)
  have HB := Lib.hid (fun W => mon_any b s W hs)
  rw [h1] at HA
  rw [h2] at HB
  have hC := fun W => mcmp_any a s b s W hs hs
  have hD := fun W => mcmp_any b s a s W hs hs
  have hE := fun W => add_any a s b s W hs hs
  unfold CmpPost cmpV at hC hD
  unfold CombPost at hE
  rw [pair_zero h1 h2, if_pos rfl, hc1] at hC
  rw [pair_zero h2 h1, if_pos rfl, hc2] at hD
  rw [pair_zero h1 h2, (comb_in (s := s) hin).1, (comb_in (s := s) hin).2] at hE
  unfold monV at hE
  have hia := (inT_iff a).1 (monE_ok h1).2
  have hib := (inT_iff b).1 (monE_ok h2).2
  obtain ⟨SM, hSM⟩ : ∃ SM, a + b = SM := ⟨_, rfl⟩
  have esum : IntKind.i64.wrap (a + b) = SM := by rw [IntWalk.i64_in _ (by omega)]; exact hSM
  rw [hSM] at hE hin
  have h3 : monE SM s = 0 := monE_of (monE_ok h1).1 hin
  have hF := fun W => sub_any SM s b s W hs hs
  unfold CombPost at hF
  have hSa : SM - b = a := by omega
  rw [pair_zero h3 h2, hSa, (comb_in (s := s) (monE_ok h1).2).1, (comb_in (s := s) (monE_ok h1).2).2] at hF
  unfold monV at hF
  have HF := Lib.hid hF
  clear hF hSa h3
  have HC := Lib.hid hC
  have HD := Lib.hid hD
  have HE := Lib.hid hE
  have HI := Lib.hid (fun W hW => awake_any W hW)
  have HW := Lib.hid hw
  have q1 := fun W => eq_amt a b s r hreq W
  have q3 := fun W => neq_same a s W
  have hss : (s.toList == s.toList) = true := by simp
  clear hC hD hE hc1 hc2 hreq hs hw hin hia hib h1 h2 hSM
  rcases hn with n1 | ⟨n1, n2⟩
  all_goals rcases hcase with ⟨hab, rfl, rfl, rfl⟩ | ⟨hab, rfl, rfl, rfl⟩ | ⟨hab, rfl, rfl, rfl⟩
  all_goals
    go_enter Tryd.func8, Tryd.ntmps8
    go_wp2_with fail
    refine (HA.out _).mono ?_
    rintro e w1 ⟨rfl, hb⟩
    obtain ⟨k1, k2, hz, hb1⟩ := box2 hb
    have KA := Lib.hid k1
    have KB := Lib.hid k2
    have B1 := Lib.hid hb1
    clear hb k1 k2 hb1
    have a0 := cell_c KA.out 0
    have a1 := cell_c KA.out 1
    have b0 := cell_c KB.out 0
    have b1 := cell_c KB.out 1
    go_wp2_with fail
    refine (HB.out _).mono ?_
    rintro e w2 ⟨rfl, hb⟩
    have KA := Lib.hid (blk_later KA.out hb)
    have KB := Lib.hid (blk_later KB.out hb)
    have B2 := Lib.hid (B1.out.trans (hb.mono B1.out.size))
    clear a0 a1 b0 b1 hb
    have a0 := cell_c KA.out 0
    have a1 := cell_c KA.out 1
    have b0 := cell_c KB.out 0
    have b1 := cell_c KB.out 1
    go_wp2_with fail
    refine (HC.out _).mono ?_
    rintro e w3 ⟨rfl, hb⟩
    have KA := Lib.hid (blk_later KA.out hb)
    have KB := Lib.hid (blk_later KB.out hb)
    have B3 := Lib.hid (B2.out.trans (hb.mono B2.out.size))
    clear a0 a1 b0 b1 hb
    have a0 := cell_c KA.out 0
    have a1 := cell_c KA.out 1
    have b0 := cell_c KB.out 0
    have b1 := cell_c KB.out 1
    go_wp2_with fail
    refine (HD.out _).mono ?_
    rintro e w4 ⟨rfl, hb⟩
    have KA := Lib.hid (blk_later KA.out hb)
    have KB := Lib.hid (blk_later KB.out hb)
    have B4 := Lib.hid (B3.out.trans (hb.mono B3.out.size))
    clear a0 a1 b0 b1 hb
    have a0 := cell_c KA.out 0
    have a1 := cell_c KA.out 1
    have b0 := cell_c KB.out 0
    have b1 := cell_c KB.out 1
    go_wp2_with fail
    refine (HE.out _).mono ?_
    rintro e w5 ⟨rfl, hb⟩
    have KA := Lib.hid (blk_later KA.out hb)
    have KB := Lib.hid (blk_later KB.out hb)
    have B5 := Lib.hid (B4.out.trans (hb.mono B4.out.size))
    clear a0 a1 b0 b1 hb
    have a0 := cell_c KA.out 0
    have a1 := cell_c KA.out 1
    have b0 := cell_c KB.out 0
    have b1 := cell_c KB.out 1
    have z5 := blk_lt KA.out
    have y5 := blk_lt KB.out
    go_wp2_with fail
    refine (HF.out _).mono ?_
    rintro e w6 ⟨rfl, hb⟩
    obtain ⟨k, z6, hb1⟩ := box1 hb
    have KA := Lib.hid (blk_later KA.out hb1)
    have KB := Lib.hid (blk_later KB.out hb1)
    have B6 := Lib.hid (B5.out.trans (hb1.mono B5.out.size))
    have c0 := cell_c k 0
    clear a0 a1 b0 b1 hb hb1 k
    have a0 := cell_c KA.out 0
    have a1 := cell_c KA.out 1
    have b0 := cell_c KB.out 0
    have b1 := cell_c KB.out 1
    have x6 := blk_lt KA.out
    have y6 := blk_lt KB.out
    go_wp2_with fail
    have hbe := alloc_lt w6 (.cells #[.int .i64 a, .string s] 23)
    have KA := Lib.hid (blk_later KA.out hbe)
    have BX := Lib.hid (B6.out.alloc B6.out.size (.cells #[.int .i64 a, .string s] 23))
    clear a0 a1 b0 b1 hbe
    clear c0
    generalize w6.alloc (.cells #[.int .i64 a, .string s] 23) = W at *
    refine (HI.out _ (HW.out.below BX.out)).mono ?_
    rintro e w8 ⟨rfl, hb⟩
    have B8 := Lib.hid (BX.out.trans (hb.mono BX.out.size))
    clear hb
    go_wp2_with fail
    go_ret
    exact ⟨rfl, B8.out⟩
set_option maxRecDepth 100000 in
set_option maxHeartbeats 12800000 in
theorem order_out_ok (a : Int) (s : ByteArray) (b : Int) (num : Int) (w : World) (hw : KW w) (hs : s.size ≤ maxLen) (h1 : monE a s = 0) (h2 : monE b s = 0) (hin : inT (a + b) = false) (hn : 1 ≤ num ∧ num ≤ 1099511627776) :
    Calls Tryd.prog 8 #[.agg #[.int .i64 a, .string s], .agg #[.int .i64 b, .string s], .int .i64 num] w fun e w' => e = .returned (.bool true) ∧ Below w.heap.size w w' := by
  obtain ⟨C1, hc1⟩ : ∃ C, cmpI a b = C := ⟨_, rfl⟩
  obtain ⟨C2, hc2⟩ : ∃ C, cmpI b a = C := ⟨_, rfl⟩
  obtain ⟨r, hreq⟩ : ∃ r, decide (a = b) = r := ⟨_, rfl⟩
  have hcase : (a < b ∧ C1 = -1 ∧ C2 = 1 ∧ r = false) ∨ (¬ a < b ∧ C1 = 0 ∧ C2 = 0 ∧ r = true) ∨ (¬ a < b ∧ C1 = 1 ∧ C2 = -1 ∧ r = false) := by
    rw [← hc1, ← hc2, ← hreq]
    unfold cmpI
    by_cases q : a < b
    · rw [if_pos q, if_neg (by omega), if_pos q, decide_eq_false (by omega)]; exact .inl ⟨q, rfl, rfl, rfl⟩
    · by_cases q2 : b < a
      · rw [if_neg q, if_pos q2, if_pos q2, decide_eq_false (by omega)]; exact .inr (.inr ⟨q, rfl, rfl, rfl⟩)
      · rw [if_neg q, if_neg q2, if_neg q2, if_neg q, decide_eq_true (by omega)]; exact .inr (.inl ⟨q, rfl, rfl, rfl⟩)
  have HA := Lib.hid (fun W => mon_any a s W hs)
  have HB := Lib.hid (fun W => mon_any b s W hs)
  rw [h1] at HA
  rw [h2] at HB
  have hC := fun W => mcmp_any a s b s W hs hs
  have hD := fun W => mcmp_any b s a s W hs hs
  have hE := fun W => add_any a s b s W hs hs
  unfold CmpPost cmpV at hC hD
  unfold CombPost at hE
  rw [pair_zero h1 h2, if_pos rfl, hc1] at hC
  rw [pair_zero h2 h1, if_pos rfl, hc2] at hD
  rw [pair_zero h1 h2, (comb_out (s := s) hin).1, (comb_out (s := s) hin).2] at hE
  unfold zeroM at hE
  have hia := (inT_iff a).1 (monE_ok h1).2
  have hib := (inT_iff b).1 (monE_ok h2).2
  obtain ⟨SM, hSM⟩ : ∃ SM, a + b = SM := ⟨_, rfl⟩
  have esum : IntKind.i64.wrap (a + b) = SM := by rw [IntWalk.i64_in _ (by omega)]; exact hSM
  rw [hSM] at hin
  have HSC := Lib.hid (fun W (k : Int) (g3 : 1 ≤ k) (g4 : k ≤ 4) => ordScl a s num k W hs h1 hn.1 hn.2 g3 g4)
  have n1 : ¬ num < 1 := by omega
  have n2 : ¬ 1099511627776 < num := by omega
  clear hn
  have HC := Lib.hid hC
  have HD := Lib.hid hD
  have HE := Lib.hid hE
  have HI := Lib.hid (fun W hW => awake_any W hW)
  have HW := Lib.hid hw
  have q1 := fun W => eq_amt a b s r hreq W
  have q3 := fun W => neq_same a s W
  have hss : (s.toList == s.toList) = true := by simp
  clear hC hD hE hc1 hc2 hreq hs hw hin hia hib h1 h2 hSM
  rcases hcase with ⟨hab, rfl, rfl, rfl⟩ | ⟨hab, rfl, rfl, rfl⟩ | ⟨hab, rfl, rfl, rfl⟩
  all_goals
    go_enter Tryd.func8, Tryd.ntmps8
    go_wp2_with fail
    refine (HA.out _).mono ?_
    rintro e w1 ⟨rfl, hb⟩
    obtain ⟨k1, k2, hz, hb1⟩ := box2 hb
    have KA := Lib.hid k1
    have KB := Lib.hid k2
    have B1 := Lib.hid hb1
    clear hb k1 k2 hb1
    have a0 := cell_c KA.out 0
    have a1 := cell_c KA.out 1
    have b0 := cell_c KB.out 0
    have b1 := cell_c KB.out 1
    go_wp2_with fail
    refine (HB.out _).mono ?_
    rintro e w2 ⟨rfl, hb⟩
    have KA := Lib.hid (blk_later KA.out hb)
    have KB := Lib.hid (blk_later KB.out hb)
    have B2 := Lib.hid (B1.out.trans (hb.mono B1.out.size))
    clear a0 a1 b0 b1 hb
    have a0 := cell_c KA.out 0
    have a1 := cell_c KA.out 1
    have b0 := cell_c KB.out 0
    have b1 := cell_c KB.out 1
    go_wp2_with fail
    refine (HC.out _).mono ?_
    rintro e w3 ⟨rfl, hb⟩
    have KA := Lib.hid (blk_later KA.out hb)
    have KB := Lib.hid (blk_later KB.out hb)
    have B3 := Lib.hid (B2.out.trans (hb.mono B2.out.size))
    clear a0 a1 b0 b1 hb
    have a0 := cell_c KA.out 0
    have a1 := cell_c KA.out 1
    have b0 := cell_c KB.out 0
    have b1 := cell_c KB.out 1
    go_wp2_with fail
    refine (HD.out _).mono ?_
    rintro e w4 ⟨rfl, hb⟩
    have KA := Lib.hid (blk_later KA.out hb)
    have KB := Lib.hid (blk_later KB.out hb)
    have B4 := Lib.hid (B3.out.trans (hb.mono B3.out.size))
    clear a0 a1 b0 b1 hb
    have a0 := cell_c KA.out 0
    have a1 := cell_c KA.out 1
    have b0 := cell_c KB.out 0
    have b1 := cell_c KB.out 1
    go_wp2_with fail
    refine (HE.out _).mono ?_
    rintro e w5 ⟨rfl, hb⟩
    have KA := Lib.hid (blk_later KA.out hb)
    have KB := Lib.hid (blk_later KB.out hb)
    have B5 := Lib.hid (B4.out.trans (hb.mono B4.out.size))
    clear a0 a1 b0 b1 hb
    have a0 := cell_c KA.out 0
    have a1 := cell_c KA.out 1
    have b0 := cell_c KB.out 0
    have b1 := cell_c KB.out 1
    have z5 := blk_lt KA.out
    have y5 := blk_lt KB.out
    go_wp2_with fail
    have hbe := alloc_lt w5 (.cells #[.int .i64 0, .string ⟨#[]⟩] 23)
    have KA := Lib.hid (blk_later KA.out hbe)
    have BX := Lib.hid (B5.out.alloc B5.out.size (.cells #[.int .i64 0, .string ⟨#[]⟩] 23))
    clear a0 a1 b0 b1 hbe
    generalize w5.alloc (.cells #[.int .i64 0, .string ⟨#[]⟩] 23) = W at *
    have HST : Hid (OrdW w W a s) := Lib.hid ⟨KA.out, BX.out⟩
    go_loopw [15] (fun i wr => ∃ k : Nat, 1 ≤ k ∧ k ≤ 5 ∧ i = .int .i64 k ∧ Hid (OrdW w wr a s)) (fun i _ => 5 - (intOf i).toNat)
    case atStart => exact ⟨1, by omega, by omega, rfl, HST⟩
    case round =>
      obtain ⟨k, hk1, hk5, rfl, hst⟩ := hrel
      by_cases hlt : k ≤ 4
      · have HK := Lib.hid (fun W => HSC.out W (k : Int) (by omega) (by omega))
        have a0 := cell_c hst.out.blk 0
        have a1 := cell_c hst.out.blk 1
        have hk4 : (k : Int) ≤ 4 := by omega
        go_wp2_with fail
        refine (HK.out _).mono ?_
        rintro e w7 ⟨rfl, hb⟩
        have HS7 := Lib.hid (hst.out.below hb)
        clear a0 a1 hb
        have a0 := cell_c HS7.out.blk 0
        have a1 := cell_c HS7.out.blk 1
        have z7 := blk_lt HS7.out.blk
        have HS8 := Lib.hid (HS7.out.below (alloc_lt w7 (.cells #[.int .i64 a, .string s] 23)))
        go_wp2_with fail
        go_roundw
        case rel => exact ⟨k + 1, by omega, by omega, by go_num, HS8⟩
        case measure => simp [intOf]; omega
      · have hk4 : ¬ (k : Int) ≤ 4 := by omega
        go_wp2_with fail
        refine (HI.out _ (HW.out.below hst.out.bel)).mono ?_
        rintro e w8 ⟨rfl, hb⟩
        have B8 := Lib.hid (hst.out.below hb).bel
        clear hb
        go_wp2_with fail
        go_ret
        exact ⟨rfl, B8.out⟩
set_option maxRecDepth 100000 in
set_option maxHeartbeats 12800000 in
theorem order_out_few (a : Int) (s : ByteArray) (b : Int) (num : Int) (w : World) (hw : KW w) (hs : s.size ≤ maxLen) (h1 : monE a s = 0) (h2 : monE b s = 0) (hin : inT (a + b) = false) (hn : num < 1 ∨ (¬ num < 1 ∧ 1099511627776 < num)) :
    Calls Tryd.prog 8 #[.agg #[.int .i64 a, .string s], .agg #[.int .i64 b, .string s], .int .i64 num] w fun e w' => e = .returned (.bool true) ∧ Below w.heap.size w w' := by
  obtain ⟨C1, hc1⟩ : ∃ C, cmpI a b = C := ⟨_, rfl⟩
  obtain ⟨C2, hc2⟩ : ∃ C, cmpI b a = C := ⟨_, rfl⟩
  obtain ⟨r, hreq⟩ : ∃ r, decide (a = b) = r := ⟨_, rfl⟩
  have hcase : (a < b ∧ C1 = -1 ∧ C2 = 1 ∧ r = false) ∨ (¬ a < b ∧ C1 = 0 ∧ C2 = 0 ∧ r = true) ∨ (¬ a < b ∧ C1 = 1 ∧ C2 = -1 ∧ r = false) := by
    rw [← hc1, ← hc2, ← hreq]
    unfold cmpI
    by_cases q : a < b
    · rw [if_pos q, if_neg (by omega), if_pos q, decide_eq_false (by omega)]; exact .inl ⟨q, rfl, rfl, rfl⟩
    · by_cases q2 : b < a
      · rw [if_neg q, if_pos q2, if_pos q2, decide_eq_false (by omega)]; exact .inr (.inr ⟨q, rfl, rfl, rfl⟩)
      · rw [if_neg q, if_neg q2, if_neg q2, if_neg q, decide_eq_true (by omega)]; exact .inr (.inl ⟨q, rfl, rfl, rfl⟩)
  have HA := Lib.hid (fun W => mon_any a s W hs)
  have HB := Lib.hid (fun W => mon_any b s W hs)
  rw [h1] at HA
  rw [h2] at HB
  have hC := fun W => mcmp_any a s b s W hs hs
  have hD := fun W => mcmp_any b s a s W hs hs
  have hE := fun W => add_any a s b s W hs hs
  unfold CmpPost cmpV at hC hD
  unfold CombPost at hE
  rw [pair_zero h1 h2, if_pos rfl, hc1] at hC
  rw [pair_zero h2 h1, if_pos rfl, hc2] at hD
  rw [pair_zero h1 h2, (comb_out (s := s) hin).1, (comb_out (s := s) hin).2] at hE
  unfold zeroM at hE
  have hia := (inT_iff a).1 (monE_ok h1).2
  have hib := (inT_iff b).1 (monE_ok h2).2
  obtain ⟨SM, hSM⟩ : ∃ SM, a + b = SM := ⟨_, rfl⟩
  have esum : IntKind.i64.wrap (a + b) = SM := by rw [IntWalk.i64_in _ (by omega)]; exact hSM
  rw [hSM] at hin
  have HC := Lib.hid hC
  have HD := Lib.hid hD
  have HE := Lib.hid hE
  have HI := Lib.hid (fun W hW => awake_any W hW)
  have HW := Lib.hid hw
  have q1 := fun W => eq_amt a b s r hreq W
  have q3 := fun W => neq_same a s W
  have hss : (s.toList == s.toList) = true := by simp
  clear hC hD hE hc1 hc2 hreq hs hw hin hia hib h1 h2 hSM
  rcases hn with n1 | ⟨n1, n2⟩
  all_goals rcases hcase with ⟨hab, rfl, rfl, rfl⟩ | ⟨hab, rfl, rfl, rfl⟩ | ⟨hab, rfl, rfl, rfl⟩
  all_goals
    go_enter Tryd.func8, Tryd.ntmps8
    go_wp2_with fail
    refine (HA.out _).mono ?_
    rintro e w1 ⟨rfl, hb⟩
    obtain ⟨k1, k2, hz, hb1⟩ := box2 hb
    have KA := Lib.hid k1
    have KB := Lib.hid k2
    have B1 := Lib.hid hb1
    clear hb k1 k2 hb1
    have a0 := cell_c KA.out 0
    have a1 := cell_c KA.out 1
    have b0 := cell_c KB.out 0
    have b1 := cell_c KB.out 1
    go_wp2_with fail
    refine (HB.out _).mono ?_
    rintro e w2 ⟨rfl, hb⟩
    have KA := Lib.hid (blk_later KA.out hb)
    have KB := Lib.hid (blk_later KB.out hb)
    have B2 := Lib.hid (B1.out.trans (hb.mono B1.out.size))
    clear a0 a1 b0 b1 hb
    have a0 := cell_c KA.out 0
    have a1 := cell_c KA.out 1
    have b0 := cell_c KB.out 0
    have b1 := cell_c KB.out 1
    go_wp2_with fail
    refine (HC.out _).mono ?_
    rintro e w3 ⟨rfl, hb⟩
    have KA := Lib.hid (blk_later KA.out hb)
    have KB := Lib.hid (blk_later KB.out hb)
    have B3 := Lib.hid (B2.out.trans (hb.mono B2.out.size))
    clear a0 a1 b0 b1 hb
    have a0 := cell_c KA.out 0
    have a1 := cell_c KA.out 1
    have b0 := cell_c KB.out 0
    have b1 := cell_c KB.out 1
    go_wp2_with fail
    refine (HD.out _).mono ?_
    rintro e w4 ⟨rfl, hb⟩
    have KA := Lib.hid (blk_later KA.out hb)
    have KB := Lib.hid (blk_later KB.out hb)
    have B4 := Lib.hid (B3.out.trans (hb.mono B3.out.size))
    clear a0 a1 b0 b1 hb
    have a0 := cell_c KA.out 0
    have a1 := cell_c KA.out 1
    have b0 := cell_c KB.out 0
    have b1 := cell_c KB.out 1
    go_wp2_with fail
    refine (HE.out _).mono ?_
    rintro e w5 ⟨rfl, hb⟩
    have KA := Lib.hid (blk_later KA.out hb)
    have KB := Lib.hid (blk_later KB.out hb)
    have B5 := Lib.hid (B4.out.trans (hb.mono B4.out.size))
    clear a0 a1 b0 b1 hb
    have a0 := cell_c KA.out 0
    have a1 := cell_c KA.out 1
    have b0 := cell_c KB.out 0
    have b1 := cell_c KB.out 1
    have z5 := blk_lt KA.out
    have y5 := blk_lt KB.out
    go_wp2_with fail
    have hbe := alloc_lt w5 (.cells #[.int .i64 0, .string ⟨#[]⟩] 23)
    have KA := Lib.hid (blk_later KA.out hbe)
    have BX := Lib.hid (B5.out.alloc B5.out.size (.cells #[.int .i64 0, .string ⟨#[]⟩] 23))
    clear a0 a1 b0 b1 hbe
    generalize w5.alloc (.cells #[.int .i64 0, .string ⟨#[]⟩] 23) = W at *
    refine (HI.out _ (HW.out.below BX.out)).mono ?_
    rintro e w8 ⟨rfl, hb⟩
    have B8 := Lib.hid (BX.out.trans (hb.mono BX.out.size))
    clear hb
    go_wp2_with fail
    go_ret
    exact ⟨rfl, B8.out⟩
theorem moneyOrder_walk (w : World) (hw : KW w) (_ : True) (x : Mny) (hx : (Lit.int .i64 x.a).wf = true ∧ x.s.size ≤ maxLen) (y : Mny) (hy : (Lit.int .i64 y.a).wf = true ∧ y.s.size ≤ maxLen) (num : Int) :
    Calls Tryd.prog 8 #[x.val, y.val, .int .i64 num] w fun e w' => e = .returned (.bool true) ∧ Below w.heap.size w w' := by
  obtain ⟨a, s⟩ := x
  obtain ⟨b, t⟩ := y
  have hs : s.size ≤ maxLen := hx.2
  have ht : t.size ≤ maxLen := hy.2
  show Calls Tryd.prog 8 #[.agg #[.int .i64 a, .string s], .agg #[.int .i64 b, .string t], .int .i64 num] w _
  by_cases h : monE a s = 0 ∧ monE b t = 0 ∧ s = t
  · obtain ⟨h1, h2, rfl⟩ := h
    by_cases hn : 1 ≤ num ∧ num ≤ 1099511627776
    · cases hin : inT (a + b)
      · exact order_out_ok a s b num w hw hs h1 h2 hin hn
      · exact order_in_ok a s b num w hw hs h1 h2 hin hn
    · cases hin : inT (a + b)
      · exact order_out_few a s b num w hw hs h1 h2 hin (by omega)
      · exact order_in_few a s b num w hw hs h1 h2 hin (by omega)
  · exact order_bad a s b t num w hw hs ht h
end Go.Proofs.YtadehobimlpmcaaDoor
