/- The walks of the reference's examine and Check. -/
import Derived.Test.YtiegoffdbhmfbaaGreatDoorRRg
import Derived.Deep.RegionHeld3
namespace Go.Proofs.YtiegoffdbhmfbaaGreatDoor
set_option linter.unusedVariables false
open Go.RowKit

set_option maxRecDepth 1000000 in
set_option maxHeartbeats 12800000 in
theorem rexa_any (A : Option Addr) (cp : Nat) (l : List Rg) (w : World) (hr : IsRow w A (l.flatMap rgF)) (hok : ∀ x ∈ l, RgOk x) (hc : l.length ≤ cp) (hm : cp ≤ maxLen) :
    Calls Tryz.prog 36 #[.slice A l.length cp] w (ExPost l w) := by
  have HR := Lib.hid hr
  have HOK := Lib.hid (fun k (h : k < l.length) => show RgOk (rgAt l k) from by rw [rgAt_get l k h]; exact hok _ (List.getElem_mem h))
  have HC := Lib.hid hc
  unfold maxLen at hm
  unfold ExPost
  clear hr hok
  by_cases hlong : 64 < l.length
  · have HX := Lib.hid (exR_long hlong)
    have q64 : (64 : Int) < (l.length : Int) := by omega
    go_enter Tryz.func36, Tryz.ntmps36
    go_wp2_with fail
    go_ret2
    exact ⟨by rw [HX.out]; rfl, Below.refl _ _⟩
  · have HLO := Lib.hid hlong
    have q64 : ¬ (64 : Int) < (l.length : Int) := by omega
    have hlen : l.length ≤ 64 := by omega
    clear hlong
    go_enter Tryz.func36, Tryz.ntmps36
    go_wp2_with fail
    clear q64
    go_loopw [4] (fun i wr => ∃ k : Nat, k ≤ l.length ∧ i = .int .i64 k ∧ Hid (∀ j, j < k → badOne (rgAt l j) = 0) ∧ Hid (Below w.heap.size w wr)) (fun i _ => l.length - (intOf i).toNat)
    case atStart => exact ⟨0, Nat.zero_le _, rfl, Lib.hid (fun j h => by omega), Lib.hid (Below.refl _ _)⟩
    case round =>
      obtain ⟨k, hk, rfl, HG, HB⟩ := hrel
      by_cases hlt : k < l.length
      · rcases row_rg HR.out k hlt with ⟨b, off, rfl, hcell⟩
        obtain ⟨d0, d1, d2, d3⟩ := hcell k hlt
        have c0 := cell_later HB.out d0
        have c1 := cell_later HB.out d1
        have c2 := cell_later HB.out d2
        have c3 := cell_later HB.out d3
        have hrk := HOK.out k hlt
        have HBAD := Lib.hid (fun hb => exR_bad HLO.out k hlt hb HG.out)
        have HNX := Lib.hid (fun (hb : badOne (rgAt l k) = 0) j (hj : j < k + 1) => show badOne (rgAt l j) = 0 from by
          rcases Nat.lt_or_ge j k with q | q
          · exact HG.out j q
          · obtain rfl : j = k := by omega
            exact hb)
        have kI : (k : Int) < (l.length : Int) := by omega
        have k0 : (0 : Int) ≤ (k : Int) := by omega
        have hbl : b < wr.heap.size := World.block_lt_of_cell? wr _ c0
        clear d0 d1 d2 d3 hcell
        have HONE := Lib.hid (fun W => one_any (rgAt l k) W hrk)
        generalize badOne (rgAt l k) = BO at *
        generalize rgAt l k = r at *
        obtain ⟨lo, hi, is, pr⟩ := r
        unfold rgC at HONE
        simp only at c0 c1 c2 c3 HONE
        clear hrk
        by_cases hz : BO = 0
        · subst hz
          have HG2 := Lib.hid (HNX.out rfl)
          clear HNX HBAD
          go_wp2_with fail
          refine (HONE.out _).mono ?_
          rintro e w2 ⟨rfl, hb⟩
          have HB2 := Lib.hid (HB.out.trans (hb.mono HB.out.size))
          clear hb
          go_wp2_with fail
          go_roundw
          case rel => exact ⟨k + 1, by omega, by go_num, HG2, HB2⟩
          case measure => simp [intOf]; omega
        · have HX := Lib.hid (HBAD.out hz)
          have hz' : (BO != 0) = true := by simpa using hz
          clear HNX HBAD hz
          go_wp2_with fail
          refine (HONE.out _).mono ?_
          rintro e w2 ⟨rfl, hb⟩
          have HB2 := Lib.hid (HB.out.trans (hb.mono HB.out.size))
          clear hb
          go_wp2_with fail
          go_ret2
          exact ⟨by rw [HX.out]; rfl, HB2.out⟩
      · obtain rfl : k = l.length := by omega
        have HGOOD := Lib.hid HG.out
        clear HG hk
        go_wp2_with fail
        go_loopw [6] (fun i wr2 => ∃ k2 : Nat, k2 ≤ l.length ∧ i = .int .i64 k2 ∧ Hid (∀ j, j < k2 → ovP l j = false) ∧ Hid (Below w.heap.size w wr2)) (fun i _ => l.length - (intOf i).toNat)
        case atStart => exact ⟨0, Nat.zero_le _, rfl, Lib.hid (fun j h => by omega), HB⟩
        case round =>
          clear HB
          obtain ⟨i, hi, rfl, HO, HB⟩ := hrel
          obtain ⟨wr2, hw2⟩ : ∃ wr2, wr2 = wr := ⟨_, rfl⟩
          subst hw2
          by_cases hilt : i < l.length
          · rcases row_rg HR.out i hilt with ⟨b, off, rfl, hcell⟩
            have HCELL := Lib.hid hcell
            have HEX := Lib.hid (fun k hk hcl => exR_ov HLO.out HGOOD.out i hilt k hk hcl HO.out)
            have HNX := Lib.hid (fun (hcl : ∀ k, k < i → clash (rgAt l i) (rgAt l k) = false) j (hj : j < i + 1) => show ovP l j = false from by
              rcases Nat.lt_or_ge j i with q | q
              · exact HO.out j q
              · obtain rfl : j = i := by omega
                unfold ovP
                rw [fstB_none hcl]; rfl)
            have iI : (i : Int) < (l.length : Int) := by omega
            have i0 : (0 : Int) ≤ (i : Int) := by omega
            have HGI := Lib.hid ((good_iff _).1 (HGOOD.out i hilt))
            clear hcell
            obtain ⟨ra, hra⟩ : ∃ ra, rgAt l i = ra := ⟨_, rfl⟩
            have HRA := Lib.hid hra
            rw [hra] at HEX HNX HGI
            clear hra
            obtain ⟨alo, ahi, ais, apr⟩ := ra
            go_wp2_with fail
            go_loopw [7] (fun j wr3 => ∃ k3 : Nat, k3 ≤ i ∧ j = .int .i64 k3 ∧ Hid (∀ q, q < k3 → clash ⟨alo, ahi, ais, apr⟩ (rgAt l q) = false) ∧ Hid (Below w.heap.size w wr3)) (fun j _ => i - (intOf j).toNat)
            case atStart => exact ⟨0, Nat.zero_le _, rfl, Lib.hid (fun j h => by omega), HB⟩
            case round =>
              clear HB
              obtain ⟨k, hk, rfl, HCL, HS⟩ := hrel
              obtain ⟨wr3, hw3⟩ : ∃ wr3, wr3 = wr := ⟨_, rfl⟩
              subst hw3
              by_cases hki : k < i
              · obtain ⟨d0, d1, d2, d3⟩ := HCELL.out k (by omega)
                obtain ⟨e0, e1, e2, e3⟩ := HCELL.out i (by omega)
                rw [HRA.out] at e0 e1 e2 e3
                simp only at e0 e1 e2 e3
                have c0 := cell_later HS.out d0
                have c1 := cell_later HS.out d1
                have c2 := cell_later HS.out d2
                have c3 := cell_later HS.out d3
                have z0 := cell_later HS.out e0
                have z1 := cell_later HS.out e1
                have z2 := cell_later HS.out e2
                have z3 := cell_later HS.out e3
                have hbl : b < wr3.heap.size := World.block_lt_of_cell? wr3 _ c0
                have kI : (k : Int) < (i : Int) := by omega
                have kL : (k : Int) < (l.length : Int) := by omega
                have k0 : (0 : Int) ≤ (k : Int) := by omega
                have HE := Lib.hid (fun hcl => HEX.out k hki hcl)
                have HN := Lib.hid (fun (hcl : clash ⟨alo, ahi, ais, apr⟩ (rgAt l k) = false) q (hq : q < k + 1) => show clash ⟨alo, ahi, ais, apr⟩ (rgAt l q) = false from by
                  rcases Nat.lt_or_ge q k with z | z
                  · exact HCL.out q z
                  · obtain rfl : q = k := by omega
                    exact hcl)
                have HGK := Lib.hid ((good_iff _).1 (HGOOD.out k (by omega)))
                clear d0 d1 d2 d3 e0 e1 e2 e3
                generalize rgAt l k = rb at *
                obtain ⟨blo, bhi, bis, bpr⟩ := rb
                simp only at c0 c1 c2 c3
                have HOV := Lib.hid (fun W hz => rovl_any ⟨blo, bhi, bis, bpr⟩ ⟨alo, ahi, ais, apr⟩ W HGK.out HGI.out hz)
                have HCZ : Hid (blo.size ≠ alo.size → clash ⟨alo, ahi, ais, apr⟩ ⟨blo, bhi, bis, bpr⟩ = false) := Lib.hid (fun h => by unfold clash; rw [decide_eq_false (show ¬ alo.size = blo.size from fun q => h q.symm)]; rfl)
                unfold rgC at HOV
                simp only at HOV
                generalize clash ⟨alo, ahi, ais, apr⟩ ⟨blo, bhi, bis, bpr⟩ = CL at *
                have HKW : Hid (∀ W, Below wr3.heap.size wr3 W → (W.cell? ⟨b, off + k * 4, none⟩ = some (.string blo) ∧ W.cell? ⟨b, off + k * 4 + 1, none⟩ = some (.string bhi) ∧ W.cell? ⟨b, off + k * 4 + 2, none⟩ = some (.string bis) ∧ W.cell? ⟨b, off + k * 4 + 3, none⟩ = some (.string bpr)) ∧ (W.cell? ⟨b, off + i * 4, none⟩ = some (.string alo) ∧ W.cell? ⟨b, off + i * 4 + 1, none⟩ = some (.string ahi) ∧ W.cell? ⟨b, off + i * 4 + 2, none⟩ = some (.string ais) ∧ W.cell? ⟨b, off + i * 4 + 3, none⟩ = some (.string apr))) := Lib.hid (fun W h => ⟨⟨cell_later h c0, cell_later h c1, cell_later h c2, cell_later h c3⟩, cell_later h z0, cell_later h z1, cell_later h z2, cell_later h z3⟩)
                by_cases hsz : blo.size = alo.size
                · have hszI : ((blo.size : Int) == (alo.size : Int)) = true := by rw [hsz]; simp
                  have HOV2 := Lib.hid (fun W => HOV.out W hsz)
                  clear HOV HCZ hsz
                  cases CL
                  · have HN2 := Lib.hid (HN.out rfl)
                    clear HN HE
                    go_wp2_with fail
                    have HBW := Lib.hid (Below.drew (Below.refl wr3.heap.size wr3))
                    clear c0 c1 c2 c3 z0 z1 z2 z3
                    go_region_held3 (fun W => (W.cell? ⟨b, off + k * 4, none⟩ = some (.string blo) ∧ W.cell? ⟨b, off + k * 4 + 1, none⟩ = some (.string bhi) ∧ W.cell? ⟨b, off + k * 4 + 2, none⟩ = some (.string bis) ∧ W.cell? ⟨b, off + k * 4 + 3, none⟩ = some (.string bpr)) ∧ (W.cell? ⟨b, off + i * 4, none⟩ = some (.string alo) ∧ W.cell? ⟨b, off + i * 4 + 1, none⟩ = some (.string ahi) ∧ W.cell? ⟨b, off + i * 4 + 2, none⟩ = some (.string ais) ∧ W.cell? ⟨b, off + i * 4 + 3, none⟩ = some (.string apr)))
                      (exact HKW.out _ HBW.out)
                      (first
                        | (go_at_call 52; (with_reducible refine (HOV2.out _).mono ?_); rintro e wq ⟨rfl, hb⟩; have HBW := Lib.hid (HBW.out.trans (hb.mono HBW.out.size)); clear hb))
                    go_wp2_with fail
                    go_roundw
                    case rel => exact ⟨k + 1, by omega, by go_num, HN2, Lib.hid (HS.out.trans (HBW.out.mono HS.out.size))⟩
                    case measure => simp [intOf]; omega
                  · have HX := Lib.hid (HE.out rfl)
                    clear HN HE
                    go_wp2_with fail
                    have HBW := Lib.hid (Below.drew (Below.refl wr3.heap.size wr3))
                    clear c0 c1 c2 c3 z0 z1 z2 z3
                    go_region_held3 (fun W => (W.cell? ⟨b, off + k * 4, none⟩ = some (.string blo) ∧ W.cell? ⟨b, off + k * 4 + 1, none⟩ = some (.string bhi) ∧ W.cell? ⟨b, off + k * 4 + 2, none⟩ = some (.string bis) ∧ W.cell? ⟨b, off + k * 4 + 3, none⟩ = some (.string bpr)) ∧ (W.cell? ⟨b, off + i * 4, none⟩ = some (.string alo) ∧ W.cell? ⟨b, off + i * 4 + 1, none⟩ = some (.string ahi) ∧ W.cell? ⟨b, off + i * 4 + 2, none⟩ = some (.string ais) ∧ W.cell? ⟨b, off + i * 4 + 3, none⟩ = some (.string apr)))
                      (exact HKW.out _ HBW.out)
                      (first
                        | (go_at_call 52; (with_reducible refine (HOV2.out _).mono ?_); rintro e wq ⟨rfl, hb⟩; have HBW := Lib.hid (HBW.out.trans (hb.mono HBW.out.size)); clear hb))
                    go_wp2_with fail
                    go_ret2
                    exact ⟨by rw [HX.out]; rfl, HS.out.trans (HBW.out.mono HS.out.size)⟩
                · have hszI : ((blo.size : Int) == (alo.size : Int)) = false := beq_eq_false_iff_ne.2 (by omega)
                  have HN2 := Lib.hid (HN.out (HCZ.out hsz))
                  clear HOV HCZ hsz HN HE
                  go_wp2_with fail
                  go_quiet (fail)
                  go_wp2_with fail
                  go_roundw
                  case rel => exact ⟨k + 1, by omega, by go_num, HN2, Lib.hid (dNb HS.out _)⟩
                  case measure => simp [intOf]; omega
              · obtain rfl : k = i := by omega
                have HO2 := Lib.hid (HNX.out HCL.out)
                clear hki
                go_wp2_with fail
                go_roundw
                case rel => exact ⟨k + 1, by omega, by go_num, HO2, Lib.hid HS.out⟩
                case measure => simp [intOf]; omega
          · obtain rfl : i = l.length := by omega
            have HX := Lib.hid (exR_ok HLO.out HGOOD.out HO.out)
            clear hilt hi
            go_wp2_with fail
            go_ret2
            exact ⟨by rw [HX.out]; rfl, HB.out⟩
set_option maxRecDepth 100000 in
theorem rck_any (A : Option Addr) (cp : Nat) (l : List Rg) (w : World) (hr : IsRow w A (l.flatMap rgF)) (hok : ∀ x ∈ l, RgOk x) (hc : l.length ≤ cp) (hm : cp ≤ maxLen) :
    Calls Tryz.prog 18 #[.slice A l.length cp] w fun e w' => e = .returned (.int .i64 (ckR l)) ∧ Below w.heap.size w w' := by
  have HE := Lib.hid (fun W h => rexa_any A cp l W h hok hc hm)
  have HR := Lib.hid hr
  unfold ExPost at HE
  unfold ckR
  clear hr hok
  generalize (exR l).1 = E at *
  generalize (exR l).2 = X at *
  go_enter Tryz.func18, Tryz.ntmps18
  go_wp2_with fail
  refine (HE.out _ HR.out).mono ?_
  rintro e w2 ⟨rfl, hb⟩
  have HB := Lib.hid hb
  clear hb
  go_wp2_with fail
  go_ret
  exact ⟨rfl, HB.out⟩
end Go.Proofs.YtiegoffdbhmfbaaGreatDoor
