/- The walk of the law Specific. -/
import Derived.Test.YtiegoffdbhmfbaaDoorLMrg
namespace Go.Proofs.YtiegoffdbhmfbaaDoor
set_option linter.unusedVariables false
open Go.RowKit

def inP (l : List Rg) (s : ByteArray) (R : Rg) (k : Nat) : Bool := (List.range k).any fun j => wiB s (rgAt l j).lo (rgAt l j).hi && rgE (rgAt l j) R
theorem inP_step (l : List Rg) (s : ByteArray) (R : Rg) (k : Nat) : inP l s R (k + 1) = (inP l s R k || (wiB s (rgAt l k).lo (rgAt l k).hi && rgE (rgAt l k) R)) := by
  unfold inP
  rw [List.range_succ, List.any_append]; simp
structure FdF (l : List Rg) (s : ByteArray) (R : Rg) (has : Bool) : Prop where
  no : has = false → R = zRg ∧ ∀ r ∈ l, wiB s r.lo r.hi = false
  yes : has = true → R ∈ l ∧ wiB s R.lo R.hi = true ∧ ∀ r ∈ l, wiB s r.lo r.hi = true → r.lo.size ≤ R.lo.size
theorem fdF {l : List Rg} (s : ByteArray) (hl : TabOK l) (hp : panE s = 0) : FdF l s (fdR l s).1 (fdR l s).2 := by
  unfold fdR
  rw [if_neg (by rw [(ck_iff l).2 hl, hp]; simp)]
  obtain ⟨h1, h2⟩ := fd_end l s
  exact ⟨fun h => ⟨by rw [fdAt_none l s _ (Nat.le_refl _) h], h1 h⟩, h2⟩
theorem FdF.inP_end {l : List Rg} {s : ByteArray} {R : Rg} {has : Bool} (h : FdF l s R has) : inP l s R l.length = has := by
  cases hh : has
  · have := (h.no hh).2
    unfold inP
    rw [List.any_eq_false]
    intro j hj
    rw [rgAt_get l j (List.mem_range.1 hj), this _ (List.getElem_mem _)]; simp
  · obtain ⟨h1, h2, h3⟩ := h.yes hh
    obtain ⟨j, hj, rfl⟩ := List.getElem_of_mem h1
    unfold inP
    rw [List.any_eq_true]
    exact ⟨j, List.mem_range.2 hj, by rw [rgAt_get l j hj, h2, (rgE_iff _ _).2 rfl]; rfl⟩
theorem panE_size {s : ByteArray} (h : panE s = 0) : 12 ≤ s.size ∧ s.size ≤ 19 ∧ digsB s = true := by
  unfold panE at h
  by_cases h1 : s.size < 12
  · rw [if_pos h1] at h; exact absurd h (by decide)
  · rw [if_neg h1] at h
    by_cases h2 : 19 < s.size
    · rw [if_pos h2] at h; exact absurd h (by decide)
    · rw [if_neg h2] at h
      by_cases h3 : digsB s = false
      · rw [if_pos h3] at h; exact absurd h (by decide)
      · exact ⟨by omega, by omega, by simpa using h3⟩
theorem wi_split {s : ByteArray} {r : Rg} (hr : Good r) (hp : 12 ≤ s.size ∧ s.size ≤ 19 ∧ digsB s = true) : wiB s r.lo r.hi = (leS r.lo (s.extract 0 r.lo.size) && leS (s.extract 0 r.lo.size) r.hi) := by
  unfold wiB
  have h1 := hr.sz; have h2 := hr.one; have h3 := hr.ten
  have h4 : r.lo.size ≤ s.size := by omega
  simp [h1, h2, h4, hp.2.2, hr.dlo, hr.dhi]
theorem eq29 (a0 a1 a2 a3 b0 b1 b2 b3 : ByteArray) (w : World) : (binOp .eql 29 (.agg #[.string a0, .string a1, .string a2, .string a3]) (.agg #[.string b0, .string b1, .string b2, .string b3])).run Tryd.prog w = .ok (.bool (rgE ⟨a0, a1, a2, a3⟩ ⟨b0, b1, b2, b3⟩)) w := eq_rg ⟨a0, a1, a2, a3⟩ ⟨b0, b1, b2, b3⟩ w
theorem rp_any' (s : ByteArray) (w : World) (hs : s.size ≤ maxLen) : Calls Tryd.prog 7 #[.string s] w fun e w' => e = .returned (.int .i64 (panE s)) ∧ Below w.heap.size w w' := rpan_any s w hs
set_option maxRecDepth 1000000 in
set_option maxHeartbeats 25600000 in
theorem law_specific (v : Value) (l : List Rg) (s : ByteArray) (w : World) (hv : SlR w v l) (hok : ∀ x ∈ l, RgOk x) (hs : s.size ≤ maxLen) :
    Calls Tryd.prog 3 #[v, .string s] w fun e w' => e = .returned (.bool true) ∧ Below w.heap.size w w' := by
  have HV := Lib.hid hv
  have HS := Lib.hid hs
  have HAW := Lib.hid (fun W => awake_any W)
  have HSM := Lib.hid (sm_sl hv)
  have HCK := Lib.hid (fun W (h : SlR W v l) => ck_sl h hok)
  have HRP := Lib.hid (fun W => rp_any' s W hs)
  have HFD := Lib.hid (fun W (h : SlR W v l) => fd_sl h hok s hs)
  unfold SmPost at HSM
  unfold FdPost at HFD
  obtain ⟨A, cp, rfl, -, -, hcm, -⟩ := hv.form
  unfold maxLen at hcm hs
  by_cases h100 : 100 < s.size
  · have hz : (100 : Int) < (s.size : Int) := by omega
    clear hv hok hs
    go_enter Tryd.func3, Tryd.ntmps3
    go_wp2_with fail
    refine HSM.out.mono ?_
    rintro e w1 ⟨b, rfl, hb80, hb⟩
    have HB := Lib.hid hb
    clear hb hb80
    cases b
    all_goals
      go_wp2_with fail
      refine (HAW.out _).mono ?_
      rintro e w9 ⟨rfl, hb⟩
      have HB9 := Lib.hid (HB.out.trans (hb.mono HB.out.size))
      clear hb
      go_wp2_with fail
      go_ret
      exact ⟨rfl, HB9.out⟩
  · have hz : ¬ (100 : Int) < (s.size : Int) := by omega
    by_cases hE : ckR l = 0
    · have HT := Lib.hid ((ck_iff l).1 hE)
      rw [hE] at HCK
      by_cases hP : panE s = 0
      · have HPS := Lib.hid (panE_size hP)
        have HFF := Lib.hid (fdF s HT.out hP)
        rw [hP] at HRP
        clear hv hok hs hE h100 hP
        go_enter Tryd.func3, Tryd.ntmps3
        go_wp2_with fail
        refine HSM.out.mono ?_
        rintro e w1 ⟨b, rfl, hb80, hb⟩
        have HB := Lib.hid hb
        have HV1 := Lib.hid (HV.out.below hb)
        clear hb hb80
        cases b
        · skip
          go_wp2_with fail
          refine (HAW.out _).mono ?_
          rintro e w9 ⟨rfl, hb⟩
          have HB9 := Lib.hid (HB.out.trans (hb.mono HB.out.size))
          clear hb
          go_wp2_with fail
          go_ret
          exact ⟨rfl, HB9.out⟩
        · go_wp2_with fail
          refine (HCK.out _ HV1.out).mono ?_
          rintro e w2 ⟨rfl, hb⟩
          have HB2 := Lib.hid (HB.out.trans (hb.mono HB.out.size))
          have HV2 := Lib.hid (HV1.out.below hb)
          clear hb HB HV1
          go_wp2_with fail
          refine (HRP.out _).mono ?_
          rintro e w3 ⟨rfl, hb⟩
          have HB3 := Lib.hid (HB2.out.trans (hb.mono HB2.out.size))
          have HV3 := Lib.hid (HV2.out.below hb)
          clear hb HB2 HV2
          go_wp2_with fail
          refine (HFD.out _ HV3.out).mono ?_
          rintro e w4 ⟨rfl, hb⟩
          have HB4 := Lib.hid (HB3.out.trans (hb.mono HB3.out.size))
          have HV4 := Lib.hid (HV3.out.below hb)
          clear hb HB3 HV3 HFD HRP HCK HSM
          generalize fdR l s = fa at *
          obtain ⟨⟨rl, rh, ri, rp⟩, has⟩ := fa
          simp only at HFF
          unfold rgC
          simp only
          have HA := Lib.hid (alloc_lt w4 (.cells #[.string rl, .string rh, .string ri, .string rp] 29))
          have HST : Hid (Below w.heap.size w (w4.alloc (.cells #[.string rl, .string rh, .string ri, .string rp] 29)) ∧ (w4.alloc (.cells #[.string rl, .string rh, .string ri, .string rp] 29)).heap[w4.heap.size]? = some (.cells #[.string rl, .string rh, .string ri, .string rp] 29) ∧ IsRow (w4.alloc (.cells #[.string rl, .string rh, .string ri, .string rp] 29)) A (l.flatMap rgF)) := Lib.hid ⟨HB4.out.trans (HA.out.mono HB4.out.size), heap_alloc_new _ _, by
            obtain ⟨A', c', e1, e2, -⟩ := (HV4.out.below HA.out).form
            injection e1 with e1 _ _; subst e1; exact e2⟩
          clear HB4 HV4 HA
          have hls : l.length ≤ 64 := HT.out.len
          go_wp2_with fail
          go_loopw [7, 8] (fun vin i wr => ∃ (k : Nat) (bin : Bool), k ≤ l.length ∧ vin = .bool bin ∧ i = .int .i64 k ∧ Hid (bin = inP l s ⟨rl, rh, ri, rp⟩ k) ∧ Hid (Below w.heap.size w wr ∧ wr.heap[w4.heap.size]? = some (.cells #[.string rl, .string rh, .string ri, .string rp] 29) ∧ IsRow wr A (l.flatMap rgF))) (fun _ i _ => l.length - (intOf i).toNat)
          case atStart => exact ⟨0, false, Nat.zero_le _, rfl, rfl, Lib.hid rfl, HST⟩
          case round =>
            clear HST
            obtain ⟨k, bin, hk, rfl, rfl, HIN, HST⟩ := hrel
            generalize w4.heap.size = X at *
            by_cases hlt : k < l.length
            · rcases row_rg HST.out.2.2 k hlt with ⟨b, off, rfl, hcell⟩
              obtain ⟨c0, c1, c2, c3⟩ := hcell k hlt
              have hbl : b < wr.heap.size := World.block_lt_of_cell? wr _ c0
              have hbx : X < wr.heap.size := (Array.getElem?_eq_some_iff.1 HST.out.2.1).1
              have z0 := cell_c HST.out.2.1 0
              have z1 := cell_c HST.out.2.1 1
              have z2 := cell_c HST.out.2.1 2
              have z3 := cell_c HST.out.2.1 3
              have kI : (k : Int) < (l.length : Int) := by omega
              have k0 : (0 : Int) ≤ (k : Int) := by omega
              have hmem : rgAt l k ∈ l := by rw [rgAt_get l k hlt]; exact List.getElem_mem _
              have hG : Good (rgAt l k) := HT.out.good _ hmem
              have hwi := wi_split hG HPS.out
              have hst := inP_step l s ⟨rl, rh, ri, rp⟩ k
              rw [← HIN.out] at hst
              have hyes := fun h => (HFF.out.yes h).2.2 _ hmem
              have hno := fun h => (HFF.out.no h).2 _ hmem
              clear hcell hmem
              generalize rgAt l k = r at *
              obtain ⟨lo, hi, is, pr⟩ := r
              have s1 := hG.sz
              have s2 := hG.ten
              simp only at c0 c1 c2 c3 s1 s2 hwi hst hyes hno
              rw [hwi] at hst hyes hno
              have hps := HPS.out.1
              have n1 : ¬ (s.size : Int) < (lo.size : Int) := by omega
              have n2 : ((hi.size : Int) != (lo.size : Int)) = false := by simp; omega
              have n3 : (0 : Int) ≤ (lo.size : Int) := by omega
              have n4 : (lo.size : Int) ≤ (s.size : Int) := by omega
              have n5 : lo.size ≤ s.size := by omega
              have heq := fun W => eq29 lo hi is pr rl rh ri rp W
              have HKW : Hid (∀ m, Below w.heap.size w (wr.drewN m) ∧ (wr.drewN m).heap[X]? = some (.cells #[.string rl, .string rh, .string ri, .string rp] 29) ∧ IsRow (wr.drewN m) (some ⟨b, off, none⟩) (l.flatMap rgF)) := Lib.hid (fun m => ⟨dNb HST.out.1 m, HST.out.2.1, HST.out.2.2.below (below_drewN wr m)⟩)
              clear hwi hG hps s1 s2
              have HY := Lib.hid hyes
              have HN := Lib.hid hno
              have HSTP := Lib.hid hst
              clear hyes hno hst
              generalize rgE ⟨lo, hi, is, pr⟩ ⟨rl, rh, ri, rp⟩ = EQ at *
              cases hL : leS lo (s.extract 0 lo.size)
              · have hL' : (Op.bytesLess lo.toList (s.extract 0 lo.size).toList || lo.toList == (s.extract 0 lo.size).toList) = false := hL
                rw [hL] at HSTP
                have HP : Hid (bin = inP l s ⟨rl, rh, ri, rp⟩ (k + 1)) := Lib.hid (by rw [HSTP.out]; simp)
                clear hL HSTP HY HN
                cases bin
                all_goals
                  go_wp2_with fail
                  go_quiet (fail)
                  go_wp2_with fail
                  go_quiet (fail)
                  go_wp2_with fail
                  go_roundw
                  case rel => exact ⟨k + 1, _, by omega, rfl, by go_num, HP, Lib.hid (HKW.out _)⟩
                  case measure => simp [intOf]; omega
              · have hL' : (Op.bytesLess lo.toList (s.extract 0 lo.size).toList || lo.toList == (s.extract 0 lo.size).toList) = true := hL
                rw [hL, Bool.true_and] at HSTP HY HN
                clear hL
                cases hH : leS (s.extract 0 lo.size) hi
                · have hH' : (Op.bytesLess (s.extract 0 lo.size).toList hi.toList || (s.extract 0 lo.size).toList == hi.toList) = false := hH
                  rw [hH] at HSTP
                  have HP : Hid (bin = inP l s ⟨rl, rh, ri, rp⟩ (k + 1)) := Lib.hid (by rw [HSTP.out]; simp)
                  clear hH HSTP HY HN
                  cases bin
                  all_goals
                    go_wp2_with fail
                    go_quiet (fail)
                    go_wp2_with fail
                    go_quiet (fail)
                    go_wp2_with fail
                    go_roundw
                    case rel => exact ⟨k + 1, _, by omega, rfl, by go_num, HP, Lib.hid (HKW.out _)⟩
                    case measure => simp [intOf]; omega
                · have hH' : (Op.bytesLess (s.extract 0 lo.size).toList hi.toList || (s.extract 0 lo.size).toList == hi.toList) = true := hH
                  rw [hH, Bool.true_and] at HSTP
                  rw [hH] at HY HN
                  clear hH
                  cases has
                  · exact absurd (HN.out rfl) (by simp)
                  · have n6 : ¬ (rl.size : Int) < (lo.size : Int) := by have := HY.out rfl rfl; omega
                    clear HY HN
                    cases bin
                    · have HP : Hid (EQ = inP l s ⟨rl, rh, ri, rp⟩ (k + 1)) := Lib.hid (by rw [HSTP.out]; simp)
                      clear HSTP
                      go_wp2_with fail
                      go_quiet (fail)
                      go_wp2_with fail
                      go_quiet (fail)
                      go_wp2_with fail
                      go_roundw
                      case rel => exact ⟨k + 1, _, by omega, rfl, by go_num, HP, Lib.hid (HKW.out _)⟩
                      case measure => simp [intOf]; omega
                    · have HP : Hid (true = inP l s ⟨rl, rh, ri, rp⟩ (k + 1)) := Lib.hid (by rw [HSTP.out]; simp)
                      clear HSTP
                      go_wp2_with fail
                      go_quiet (fail)
                      go_wp2_with fail
                      go_quiet (fail)
                      go_wp2_with fail
                      go_roundw
                      case rel => exact ⟨k + 1, _, by omega, rfl, by go_num, HP, Lib.hid (HKW.out _)⟩
                      case measure => simp [intOf]; omega
            · obtain rfl : k = l.length := by omega
              have hbin := HIN.out.trans HFF.out.inP_end
              have z0 := cell_c HST.out.2.1 0
              have z1 := cell_c HST.out.2.1 1
              have z2 := cell_c HST.out.2.1 2
              have z3 := cell_c HST.out.2.1 3
              have hbx : X < wr.heap.size := (Array.getElem?_eq_some_iff.1 HST.out.2.1).1
              subst hbin
              cases bin
              · have hz0 := (HFF.out.no rfl).1
                injection hz0 with y0 y1 y2 y3
                subst y0; subst y1; subst y2; subst y3
                have heq : ∀ W, (binOp .eql 29 (.agg #[.string ⟨#[]⟩, .string ⟨#[]⟩, .string ⟨#[]⟩, .string ⟨#[]⟩]) (.agg #[.string ⟨#[]⟩, .string ⟨#[]⟩, .string ⟨#[]⟩, .string ⟨#[]⟩])).run Tryd.prog W = .ok (.bool true) W := fun W => eqr _ _ _ _ W
                go_wp2_with fail
                refine (HAW.out _).mono ?_
                rintro e w9 ⟨rfl, hb⟩
                have HB9 := Lib.hid (HST.out.1.trans (hb.mono HST.out.1.size))
                clear hb
                go_wp2_with fail
                go_ret
                exact ⟨rfl, HB9.out⟩
              · go_wp2_with fail
                refine (HAW.out _).mono ?_
                rintro e w9 ⟨rfl, hb⟩
                have HB9 := Lib.hid (HST.out.1.trans (hb.mono HST.out.1.size))
                clear hb
                go_wp2_with fail
                go_ret
                exact ⟨rfl, HB9.out⟩
      · have hP' : (panE s != 0) = true := by simpa using hP
        generalize panE s = E at *
        clear hv hok hs hE h100 HFD
        go_enter Tryd.func3, Tryd.ntmps3
        go_wp2_with fail
        refine HSM.out.mono ?_
        rintro e w1 ⟨b, rfl, hb80, hb⟩
        have HB := Lib.hid hb
        have HV1 := Lib.hid (HV.out.below hb)
        clear hb hb80
        cases b
        · skip
          go_wp2_with fail
          refine (HAW.out _).mono ?_
          rintro e w9 ⟨rfl, hb⟩
          have HB9 := Lib.hid (HB.out.trans (hb.mono HB.out.size))
          clear hb
          go_wp2_with fail
          go_ret
          exact ⟨rfl, HB9.out⟩
        · go_wp2_with fail
          refine (HCK.out _ HV1.out).mono ?_
          rintro e w2 ⟨rfl, hb⟩
          have HB2 := Lib.hid (HB.out.trans (hb.mono HB.out.size))
          clear hb HB HV1
          go_wp2_with fail
          refine (HRP.out _).mono ?_
          rintro e w3 ⟨rfl, hb⟩
          have HB3 := Lib.hid (HB2.out.trans (hb.mono HB2.out.size))
          clear hb HB2
          go_wp2_with fail
          refine (HAW.out _).mono ?_
          rintro e w9 ⟨rfl, hb⟩
          have HB9 := Lib.hid (HB3.out.trans (hb.mono HB3.out.size))
          clear hb
          go_wp2_with fail
          go_ret
          exact ⟨rfl, HB9.out⟩
    · have hE' : (ckR l != 0) = true := by simpa using hE
      generalize ckR l = E at *
      clear hv hok hs hE h100 HFD
      go_enter Tryd.func3, Tryd.ntmps3
      go_wp2_with fail
      refine HSM.out.mono ?_
      rintro e w1 ⟨b, rfl, hb80, hb⟩
      have HB := Lib.hid hb
      have HV1 := Lib.hid (HV.out.below hb)
      clear hb hb80
      cases b
      · skip
        go_wp2_with fail
        refine (HAW.out _).mono ?_
        rintro e w9 ⟨rfl, hb⟩
        have HB9 := Lib.hid (HB.out.trans (hb.mono HB.out.size))
        clear hb
        go_wp2_with fail
        go_ret
        exact ⟨rfl, HB9.out⟩
      · go_wp2_with fail
        refine (HCK.out _ HV1.out).mono ?_
        rintro e w2 ⟨rfl, hb⟩
        have HB2 := Lib.hid (HB.out.trans (hb.mono HB.out.size))
        clear hb HB HV1
        go_wp2_with fail
        refine (HAW.out _).mono ?_
        rintro e w9 ⟨rfl, hb⟩
        have HB9 := Lib.hid (HB2.out.trans (hb.mono HB2.out.size))
        clear hb
        go_wp2_with fail
        go_ret
        exact ⟨rfl, HB9.out⟩
end Go.Proofs.YtiegoffdbhmfbaaDoor
