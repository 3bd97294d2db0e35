/- Ranges: Find. -/
import Derived.Test.YtiegoffdbhmfbaaGreatDoorFnd
namespace Go.Proofs.YtiegoffdbhmfbaaGreatDoor
set_option linter.unusedVariables false
open Go.RowKit
section
open Go.Sort
theorem results_row_tmp {P : Program} {fn : Func} {p u : Tmp} {ty : TypeId} (h : fn.results = #[.cell p ty, .tmp u]) (tmps : Array Value) (w : World) (g : Nat) (t : TypeId) (cs : Array Value) (fr : Nat × Nat) (d : TypeDesc) (v : Value)
    (hp : tmps.getD p undef = .pointer (some ⟨g, 0, none⟩)) (hv : tmps.getD u undef = v) (hg : w.heap[g]? = some (.cells cs t fr))
    (hu : P.underlying ty = some d) (hd : (match d with | .struct _ | .array _ _ => true | _ => false) = true) (hi : (P.info? ty).map (·.size) = some cs.size) :
    (results fn tmps).run P w = .ok (.tuple #[.agg cs, v]) w := by
  have hp' : tmps[p]?.getD undef = .pointer (some ⟨g, 0, none⟩) := by simpa using hp
  have hv' : tmps[u]?.getD undef = v := by simpa using hv
  simp [results, h, hp', hv', asAddr, run_loadVar_row w g t ty cs fr d hg hu hd hi]
end
def zRg : Rg := ⟨⟨#[]⟩, ⟨#[]⟩, ⟨#[]⟩, ⟨#[]⟩⟩
def fdStep (s : ByteArray) (acc : Rg × Bool) (r : Rg) : Rg × Bool := if (wiB s r.lo r.hi && (!acc.2 || decide (acc.1.lo.size < r.lo.size))) = true then (r, true) else acc
def fdAt (l : List Rg) (s : ByteArray) (k : Nat) : Rg × Bool := (l.take k).foldl (fdStep s) (zRg, false)
def fdR (l : List Rg) (s : ByteArray) : Rg × Bool := if ckR l ≠ 0 ∨ panE s ≠ 0 then (zRg, false) else fdAt l s l.length
theorem fdAt_step (l : List Rg) (s : ByteArray) (k : Nat) (h : k < l.length) : fdAt l s (k + 1) = fdStep s (fdAt l s k) (rgAt l k) := by
  unfold fdAt
  rw [List.take_succ_eq_append_getElem h, List.foldl_append, rgAt_get l k h]; rfl
theorem set4 {w : World} {b : Nat} {x0 x1 x2 x3 y0 y1 y2 y3 : Value} {T : TypeId} (h : w.heap[b]? = some (.cells #[x0, x1, x2, x3] T)) :
    ((((w.setCell ⟨b, 0, none⟩ y0).setCell ⟨b, 1, none⟩ y1).setCell ⟨b, 2, none⟩ y2).setCell ⟨b, 3, none⟩ y3).heap[b]? = some (.cells #[y0, y1, y2, y3] T) := by
  simp [World.setCell, h, Array.getElem?_modify]
theorem set4_below {B b : Nat} {w w2 : World} {y0 y1 y2 y3 : Value} (h : Below B w w2) (hb : B ≤ b) : Below B w ((((w2.setCell ⟨b, 0, none⟩ y0).setCell ⟨b, 1, none⟩ y1).setCell ⟨b, 2, none⟩ y2).setCell ⟨b, 3, none⟩ y3) :=
  (((h.setCell (p := ⟨b, 0, none⟩) hb _).setCell (p := ⟨b, 1, none⟩) hb _).setCell (p := ⟨b, 2, none⟩) hb _).setCell (p := ⟨b, 3, none⟩) hb _
theorem set4_other {w : World} {b c : Nat} {y0 y1 y2 y3 : Value} {o : Obj} (h : w.heap[c]? = some o) (hne : c ≠ b) :
    ((((w.setCell ⟨b, 0, none⟩ y0).setCell ⟨b, 1, none⟩ y1).setCell ⟨b, 2, none⟩ y2).setCell ⟨b, 3, none⟩ y3).heap[c]? = some o := by
  rw [heap_setCell_other _ _ _ _ (show c ≠ (⟨b, 3, none⟩ : Addr).block from hne), heap_setCell_other _ _ _ _ (show c ≠ (⟨b, 2, none⟩ : Addr).block from hne), heap_setCell_other _ _ _ _ (show c ≠ (⟨b, 1, none⟩ : Addr).block from hne), heap_setCell_other _ _ _ _ (show c ≠ (⟨b, 0, none⟩ : Addr).block from hne)]
  exact h
def FdPost (l : List Rg) (s : ByteArray) (w : World) (e : Ending) (w' : World) : Prop := e = .returned (.tuple #[.agg (rgC (fdR l s).1), .bool (fdR l s).2]) ∧ Below w.heap.size w w'
set_option maxRecDepth 100000 in
set_option maxHeartbeats 12800000 in
theorem find_any (A : Option Addr) (cp : Nat) (l : List Rg) (s : ByteArray) (w : World) (hr : IsRow w A (l.flatMap rgF)) (hok : ∀ x ∈ l, RgOk x) (hc : l.length ≤ cp) (hm : cp ≤ maxLen) (hs : s.size ≤ maxLen) :
    Calls Tryz.prog 7 #[.slice A l.length cp, .string s] w (FdPost l s w) := by
  have HCK := Lib.hid (fun W h => ckl_any A cp l W h hok hc hm)
  have HPN := Lib.hid (fun W => pan_any s W hs)
  have HR := Lib.hid hr
  have HOK := Lib.hid (fun k (h : k < l.length) => show RgOk (rgAt l k) from by rw [rgAt_get l k h]; exact hok _ (List.getElem_mem h))
  have HFD : Hid (fdR l s = if ckR l ≠ 0 ∨ panE s ≠ 0 then (zRg, false) else fdAt l s l.length) := Lib.hid rfl
  have HS := Lib.hid hs
  unfold maxLen at hm
  unfold FdPost
  generalize fdR l s = FR at *
  generalize ckR l = E at *
  generalize panE s = F at *
  clear hr hok hs
  have hways : E ≠ 0 ∨ (E = 0 ∧ F ≠ 0) ∨ (E = 0 ∧ F = 0) := by omega
  have HB0 := Lib.hid (alloc_lt w (.cells #[.string ⟨#[]⟩, .string ⟨#[]⟩, .string ⟨#[]⟩, .string ⟨#[]⟩] 26))
  have HK0 := Lib.hid (heap_alloc_new w (.cells #[.string ⟨#[]⟩, .string ⟨#[]⟩, .string ⟨#[]⟩, .string ⟨#[]⟩] 26))
  rcases hways with hE | ⟨rfl, hF⟩ | ⟨rfl, rfl⟩
  · have hE' : (E != 0) = true := by simpa using hE
    have HX : Hid (FR = (zRg, false)) := Lib.hid (by rw [HFD.out, if_pos (.inl hE)])
    clear hE HFD
    go_enter Tryz.func7, Tryz.ntmps7
    go_wp2_with fail
    refine (HCK.out _ (HR.out.below HB0.out)).mono ?_
    rintro e w2 ⟨rfl, hb⟩
    have HB2 := Lib.hid (HB0.out.trans (hb.mono HB0.out.size))
    have HK2 := Lib.hid (blk_later HK0.out hb)
    have f0 := cell_f HK2.out 0
    have f1 := cell_f HK2.out 1
    have f2 := cell_f HK2.out 2
    have f3 := cell_f HK2.out 3
    have g0 := cell_c HK2.out 0
    have g1 := cell_c HK2.out 1
    have g2 := cell_c HK2.out 2
    have g3 := cell_c HK2.out 3
    clear hb
    go_wp2_with fail
    refine bodyPost_ret (results_row_tmp (show Tryz.f7.results = #[.cell 4 26, .tmp 5] by kernel_rfl) _ _ w.heap.size 26 (rgC zRg) (0, 0) _ _ rfl rfl (set4 HK2.out) Tryz.underlying26 rfl (by kernel_rfl)) rfl ?_
    exact ⟨by rw [HX.out]; rfl, set4_below HB2.out (Nat.le_refl _)⟩
  · have hF' : (F != 0) = true := by simpa using hF
    have HX : Hid (FR = (zRg, false)) := Lib.hid (by rw [HFD.out, if_pos (.inr hF)])
    clear hF HFD
    go_enter Tryz.func7, Tryz.ntmps7
    go_wp2_with fail
    refine (HCK.out _ (HR.out.below HB0.out)).mono ?_
    rintro e w1 ⟨rfl, hb⟩
    have HB1 := Lib.hid (HB0.out.trans (hb.mono HB0.out.size))
    have HK1 := Lib.hid (blk_later HK0.out hb)
    clear hb
    go_wp2_with fail
    refine (HPN.out _).mono ?_
    rintro e w2 ⟨rfl, hb⟩
    have HB2 := Lib.hid (HB1.out.trans (hb.mono HB1.out.size))
    have HK2 := Lib.hid (blk_later HK1.out hb)
    have f0 := cell_f HK2.out 0
    have f1 := cell_f HK2.out 1
    have f2 := cell_f HK2.out 2
    have f3 := cell_f HK2.out 3
    have g0 := cell_c HK2.out 0
    have g1 := cell_c HK2.out 1
    have g2 := cell_c HK2.out 2
    have g3 := cell_c HK2.out 3
    clear hb
    go_wp2_with fail
    refine bodyPost_ret (results_row_tmp (show Tryz.f7.results = #[.cell 4 26, .tmp 5] by kernel_rfl) _ _ w.heap.size 26 (rgC zRg) (0, 0) _ _ rfl rfl (set4 HK2.out) Tryz.underlying26 rfl (by kernel_rfl)) rfl ?_
    exact ⟨by rw [HX.out]; rfl, set4_below HB2.out (Nat.le_refl _)⟩
  · have HX : Hid (FR = fdAt l s l.length) := Lib.hid (by rw [HFD.out, if_neg (by simp)])
    clear HFD
    go_enter Tryz.func7, Tryz.ntmps7
    go_wp2_with fail
    refine (HCK.out _ (HR.out.below HB0.out)).mono ?_
    rintro e w1 ⟨rfl, hb⟩
    have HB1 := Lib.hid (HB0.out.trans (hb.mono HB0.out.size))
    have HK1 := Lib.hid (blk_later HK0.out hb)
    clear hb
    go_wp2_with fail
    refine (HPN.out _).mono ?_
    rintro e w2 ⟨rfl, hb⟩
    have HB2 := Lib.hid (HB1.out.trans (hb.mono HB1.out.size))
    have HK2 := Lib.hid (blk_later HK1.out hb)
    clear hb
    have HBB := Lib.hid (show w.heap.size < w2.heap.size from (Array.getElem?_eq_some_iff.1 HK2.out).1)
    have HST : Hid ((w2.alloc (.cells #[.string ⟨#[]⟩, .string ⟨#[]⟩, .string ⟨#[]⟩, .string ⟨#[]⟩] 26)).heap[w.heap.size]? = some (.cells (rgC zRg) 26) ∧ (w2.alloc (.cells #[.string ⟨#[]⟩, .string ⟨#[]⟩, .string ⟨#[]⟩, .string ⟨#[]⟩] 26)).heap[w2.heap.size]? = some (.cells (rgC (fdAt l s 0).1) 26) ∧ Below w.heap.size w (w2.alloc (.cells #[.string ⟨#[]⟩, .string ⟨#[]⟩, .string ⟨#[]⟩, .string ⟨#[]⟩] 26))) := Lib.hid ⟨blk_later HK2.out (alloc_lt _ _), heap_alloc_new _ _, HB2.out.trans ((alloc_lt _ _).mono HB2.out.size)⟩
    go_wp2_with fail
    go_loopw [7, 21] (fun f i wr => ∃ k : Nat, k ≤ l.length ∧ i = .int .i64 k ∧ f = .bool (fdAt l s k).2 ∧ Hid (wr.heap[w.heap.size]? = some (.cells (rgC zRg) 26) ∧ wr.heap[w2.heap.size]? = some (.cells (rgC (fdAt l s k).1) 26) ∧ Below w.heap.size w wr)) (fun _ i _ => l.length - (intOf i).toNat)
    case atStart => exact ⟨0, Nat.zero_le _, rfl, rfl, HST⟩
    case round =>
      clear HST
      have HNB := Lib.hid (show w.heap.size ≠ w2.heap.size from Nat.ne_of_lt HBB.out)
      have HBB := Lib.hid (Nat.le_of_lt HBB.out)
      generalize w2.heap.size = bb at *
      obtain ⟨k, hk, rfl, rfl, HW⟩ := hrel
      by_cases hlt : k < l.length
      · rcases row_rg HR.out k hlt with ⟨b, off, rfl, hcell⟩
        obtain ⟨d0, d1, d2, d3⟩ := hcell k hlt
        have c0 := cell_later HW.out.2.2 d0
        have c1 := cell_later HW.out.2.2 d1
        have c2 := cell_later HW.out.2.2 d2
        have c3 := cell_later HW.out.2.2 d3
        have hrk := HOK.out k hlt
        have hstep := fdAt_step l s k hlt
        have z0 := cell_c HW.out.2.1 0
        have z1 := cell_c HW.out.2.1 1
        have z2 := cell_c HW.out.2.1 2
        have z3 := cell_c HW.out.2.1 3
        have kI : (k : Int) < (l.length : Int) := by omega
        have k0 : (0 : Int) ≤ (k : Int) := by omega
        have hbl : b < wr.heap.size := World.block_lt_of_cell? wr _ c0
        have hbb : bb < wr.heap.size := (Array.getElem?_eq_some_iff.1 HW.out.2.1).1
        clear d0 d1 d2 d3 hcell
        obtain ⟨nx, hnx⟩ : ∃ nx, fdAt l s (k + 1) = nx := ⟨_, rfl⟩
        have HNX := Lib.hid hnx
        rw [hnx] at hstep
        clear hnx
        generalize fdAt l s k = acc at *
        obtain ⟨⟨alo, ahi, ais, apr⟩, fnd⟩ := acc
        generalize rgAt l k = r at *
        obtain ⟨lo, hi, is, pr⟩ := r
        obtain ⟨s1, s2, s3, s4⟩ := hrk
        unfold fdStep at hstep
        simp only at hstep c0 c1 c2 c3 s1 s2
        unfold rgC at z0 z1 z2 z3 HW
        simp only at z0 z1 z2 z3 HW ⊢
        have HWI := Lib.hid (fun W => wi_any s lo hi W HS.out s1 s2)
        clear s1 s2 s3 s4
        have HAL : Hid ((wr.alloc (.cells #[.string lo, .string hi, .string is, .string pr] 26)).heap[wr.heap.size]? = some (.cells #[.string lo, .string hi, .string is, .string pr] 26) ∧ (wr.alloc (.cells #[.string lo, .string hi, .string is, .string pr] 26)).heap[w.heap.size]? = some (.cells (rgC zRg) 26) ∧ (wr.alloc (.cells #[.string lo, .string hi, .string is, .string pr] 26)).heap[bb]? = some (.cells #[.string alo, .string ahi, .string ais, .string apr] 26) ∧ Below w.heap.size w (wr.alloc (.cells #[.string lo, .string hi, .string is, .string pr] 26))) := Lib.hid ⟨heap_alloc_new _ _, blk_later HW.out.1 (alloc_lt _ _), blk_later HW.out.2.1 (alloc_lt _ _), HW.out.2.2.trans ((alloc_lt _ _).mono HW.out.2.2.size)⟩
        cases hw : wiB s lo hi
        · rw [hw] at hstep HWI
          obtain rfl : nx = (⟨alo, ahi, ais, apr⟩, fnd) := hstep
          clear hw
          go_wp2_with fail
          refine (HWI.out _).mono ?_
          rintro e w5 ⟨rfl, hb⟩
          have H5 := Lib.hid (show w5.heap[w.heap.size]? = some (.cells (rgC zRg) 26) ∧ w5.heap[bb]? = some (.cells #[.string alo, .string ahi, .string ais, .string apr] 26) ∧ Below w.heap.size w w5 from ⟨blk_later HAL.out.2.1 hb, blk_later HAL.out.2.2.1 hb, HAL.out.2.2.2.trans (hb.mono HAL.out.2.2.2.size)⟩)
          clear hb
          go_wp2_with fail
          go_roundw
          case rel => exact ⟨k + 1, by omega, by go_num, by rw [HNX.out], by rw [HNX.out]; exact H5⟩
          case measure => simp [intOf]; omega
        · rw [hw, Bool.true_and] at hstep
          rw [hw] at HWI
          clear hw
          have hways : fnd = false ∨ (fnd = true ∧ alo.size < lo.size) ∨ (fnd = true ∧ ¬ alo.size < lo.size) := by cases fnd <;> simp <;> omega
          rcases hways with rfl | ⟨rfl, hsz⟩ | ⟨rfl, hsz⟩
          · obtain rfl : nx = (⟨lo, hi, is, pr⟩, true) := by rw [hstep]; rfl
            clear hstep
            go_wp2_with fail
            refine (HWI.out _).mono ?_
            rintro e w5 ⟨rfl, hb⟩
            have H5 := Lib.hid (show w5.heap[wr.heap.size]? = some (.cells #[.string lo, .string hi, .string is, .string pr] 26) ∧ w5.heap[w.heap.size]? = some (.cells (rgC zRg) 26) ∧ w5.heap[bb]? = some (.cells #[.string alo, .string ahi, .string ais, .string apr] 26) ∧ Below w.heap.size w w5 from ⟨blk_later HAL.out.1 hb, blk_later HAL.out.2.1 hb, blk_later HAL.out.2.2.1 hb, HAL.out.2.2.2.trans (hb.mono HAL.out.2.2.2.size)⟩)
            clear hb z0 z1 z2 z3 c0 c1 c2 c3
            have z0 := cell_c H5.out.2.2.1 0
            have z1 := cell_c H5.out.2.2.1 1
            have z2 := cell_c H5.out.2.2.1 2
            have z3 := cell_c H5.out.2.2.1 3
            have f0 := cell_f H5.out.2.2.1 0
            have f1 := cell_f H5.out.2.2.1 1
            have f2 := cell_f H5.out.2.2.1 2
            have f3 := cell_f H5.out.2.2.1 3
            have b0 := cell_c H5.out.1 0
            have b1 := cell_c H5.out.1 1
            have b2 := cell_c H5.out.1 2
            have b3 := cell_c H5.out.1 3
            go_wp2_with fail
            go_roundw
            case rel => exact ⟨k + 1, by omega, by go_num, by rw [HNX.out], by rw [HNX.out]; exact Lib.hid ⟨set4_other H5.out.2.1 HNB.out, set4 H5.out.2.2.1, set4_below H5.out.2.2.2 HBB.out⟩⟩
            case measure => simp [intOf]; omega
          · have hszI : (alo.size : Int) < (lo.size : Int) := by omega
            obtain rfl : nx = (⟨lo, hi, is, pr⟩, true) := by rw [hstep, decide_eq_true hsz]; rfl
            clear hsz
            clear hstep
            go_wp2_with fail
            refine (HWI.out _).mono ?_
            rintro e w5 ⟨rfl, hb⟩
            have H5 := Lib.hid (show w5.heap[wr.heap.size]? = some (.cells #[.string lo, .string hi, .string is, .string pr] 26) ∧ w5.heap[w.heap.size]? = some (.cells (rgC zRg) 26) ∧ w5.heap[bb]? = some (.cells #[.string alo, .string ahi, .string ais, .string apr] 26) ∧ Below w.heap.size w w5 from ⟨blk_later HAL.out.1 hb, blk_later HAL.out.2.1 hb, blk_later HAL.out.2.2.1 hb, HAL.out.2.2.2.trans (hb.mono HAL.out.2.2.2.size)⟩)
            clear hb z0 z1 z2 z3 c0 c1 c2 c3
            have z0 := cell_c H5.out.2.2.1 0
            have z1 := cell_c H5.out.2.2.1 1
            have z2 := cell_c H5.out.2.2.1 2
            have z3 := cell_c H5.out.2.2.1 3
            have f0 := cell_f H5.out.2.2.1 0
            have f1 := cell_f H5.out.2.2.1 1
            have f2 := cell_f H5.out.2.2.1 2
            have f3 := cell_f H5.out.2.2.1 3
            have b0 := cell_c H5.out.1 0
            have b1 := cell_c H5.out.1 1
            have b2 := cell_c H5.out.1 2
            have b3 := cell_c H5.out.1 3
            go_wp2_with fail
            go_roundw
            case rel => exact ⟨k + 1, by omega, by go_num, by rw [HNX.out], by rw [HNX.out]; exact Lib.hid ⟨set4_other H5.out.2.1 HNB.out, set4 H5.out.2.2.1, set4_below H5.out.2.2.2 HBB.out⟩⟩
            case measure => simp [intOf]; omega
          · have hszI : ¬ (alo.size : Int) < (lo.size : Int) := by omega
            obtain rfl : nx = (⟨alo, ahi, ais, apr⟩, true) := by rw [hstep, decide_eq_false hsz]; rfl
            clear hsz hstep
            go_wp2_with fail
            refine (HWI.out _).mono ?_
            rintro e w5 ⟨rfl, hb⟩
            have H5 := Lib.hid (show w5.heap[wr.heap.size]? = some (.cells #[.string lo, .string hi, .string is, .string pr] 26) ∧ w5.heap[w.heap.size]? = some (.cells (rgC zRg) 26) ∧ w5.heap[bb]? = some (.cells #[.string alo, .string ahi, .string ais, .string apr] 26) ∧ Below w.heap.size w w5 from ⟨blk_later HAL.out.1 hb, blk_later HAL.out.2.1 hb, blk_later HAL.out.2.2.1 hb, HAL.out.2.2.2.trans (hb.mono HAL.out.2.2.2.size)⟩)
            clear hb z0 z1 z2 z3 c0 c1 c2 c3
            have z0 := cell_c H5.out.2.2.1 0
            have z1 := cell_c H5.out.2.2.1 1
            have z2 := cell_c H5.out.2.2.1 2
            have z3 := cell_c H5.out.2.2.1 3
            have f0 := cell_f H5.out.2.2.1 0
            have f1 := cell_f H5.out.2.2.1 1
            have f2 := cell_f H5.out.2.2.1 2
            have f3 := cell_f H5.out.2.2.1 3
            have b0 := cell_c H5.out.1 0
            have b1 := cell_c H5.out.1 1
            have b2 := cell_c H5.out.1 2
            have b3 := cell_c H5.out.1 3
            go_wp2_with fail
            go_roundw
            case rel => exact ⟨k + 1, by omega, by go_num, by rw [HNX.out], by rw [HNX.out]; exact Lib.hid ⟨H5.out.2.1, H5.out.2.2.1, H5.out.2.2.2⟩⟩
            case measure => simp [intOf]; omega
      · obtain rfl : k = l.length := by omega
        generalize fdAt l s l.length = acc at *
        obtain ⟨⟨alo, ahi, ais, apr⟩, fnd⟩ := acc
        unfold rgC zRg at HW
        simp only at HW ⊢
        have z0 := cell_c HW.out.2.1 0
        have z1 := cell_c HW.out.2.1 1
        have z2 := cell_c HW.out.2.1 2
        have z3 := cell_c HW.out.2.1 3
        have f0 := cell_f HW.out.1 0
        have f1 := cell_f HW.out.1 1
        have f2 := cell_f HW.out.1 2
        have f3 := cell_f HW.out.1 3
        have g0 := cell_c HW.out.1 0
        have g1 := cell_c HW.out.1 1
        have g2 := cell_c HW.out.1 2
        have g3 := cell_c HW.out.1 3
        go_wp2_with fail
        refine bodyPost_ret (results_row_tmp (show Tryz.f7.results = #[.cell 4 26, .tmp 5] by kernel_rfl) _ _ w.heap.size 26 (rgC ⟨alo, ahi, ais, apr⟩) (0, 0) _ _ rfl rfl (set4 HW.out.1) Tryz.underlying26 rfl (by kernel_rfl)) rfl ?_
        exact ⟨by rw [HX.out]; rfl, set4_below HW.out.2.2 (Nat.le_refl _)⟩
end Go.Proofs.YtiegoffdbhmfbaaGreatDoor
