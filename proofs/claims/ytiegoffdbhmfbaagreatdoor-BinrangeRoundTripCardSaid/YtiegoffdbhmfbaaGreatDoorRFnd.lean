/- The walks of the reference's contains and Find. -/
import Derived.Test.YtiegoffdbhmfbaaGreatDoorRExa
import Derived.Test.YtiegoffdbhmfbaaGreatDoorFin
namespace Go.Proofs.YtiegoffdbhmfbaaGreatDoor
set_option linter.unusedVariables false
open Go.RowKit

theorem panE_size {s : ByteArray} (h : panE s = 0) : 12 ≤ s.size ∧ s.size ≤ 19 ∧ digsB s = true := by
  unfold panE at h
  by_cases h1 : s.size < 12
  · rw [if_pos h1] at h; exact absurd h (by decide)
  · rw [if_neg h1] at h
    by_cases h2 : 19 < s.size
    · rw [if_pos h2] at h; exact absurd h (by decide)
    · rw [if_neg h2] at h
      by_cases h3 : digsB s = false
      · rw [if_pos h3] at h; exact absurd h (by decide)
      · exact ⟨by omega, by omega, by simpa using h3⟩
theorem wi_split {s : ByteArray} {r : Rg} (hr : Good r) (hp : 12 ≤ s.size ∧ s.size ≤ 19 ∧ digsB s = true) : wiB s r.lo r.hi = (leS r.lo (s.extract 0 r.lo.size) && leS (s.extract 0 r.lo.size) r.hi) := by
  unfold wiB
  have h1 := hr.sz; have h2 := hr.one; have h3 := hr.ten
  have h4 : r.lo.size ≤ s.size := by omega
  simp [h1, h2, h4, hp.2.2, hr.dlo, hr.dhi]
set_option maxRecDepth 100000 in
set_option maxHeartbeats 3200000 in
theorem rcont_any (r : Rg) (s : ByteArray) (w : World) (hr : Good r) (hp : 12 ≤ s.size ∧ s.size ≤ 19 ∧ digsB s = true) : Calls Tryz.prog 20 #[.agg (rgC r), .string s] w fun e w' => e = .returned (.bool (wiB s r.lo r.hi)) ∧ Below w.heap.size w w' := by
  have HW := Lib.hid (wi_split hr hp)
  have h3 := hr.ten
  obtain ⟨lo, hi, is, pr⟩ := r
  unfold rgC
  simp only at HW h3 ⊢
  obtain ⟨p1, p2, p3⟩ := hp
  generalize wiB s lo hi = WV at *
  have n0 : (0 : Int) ≤ (lo.size : Int) := by omega
  have n1 : (lo.size : Int) ≤ (s.size : Int) := by omega
  have n2 : lo.size ≤ s.size := by omega
  have HB := Lib.hid (alloc_lt w (.cells #[.string lo, .string hi, .string is, .string pr] 26))
  clear hr p1 p2 p3 h3
  cases hL : leS lo (s.extract 0 lo.size)
  · have hL' : (Op.bytesLess lo.toList (s.extract 0 lo.size).toList || lo.toList == (s.extract 0 lo.size).toList) = false := hL
    have HX : Hid (WV = false) := Lib.hid (by rw [HW.out, hL]; rfl)
    clear hL HW
    go_enter Tryz.func20, Tryz.ntmps20
    go_wp2_with fail
    go_quiet (fail)
    go_wp2_with fail
    go_ret
    exact ⟨by rw [HX.out]; rfl, dNb HB.out _⟩
  · have hL' : (Op.bytesLess lo.toList (s.extract 0 lo.size).toList || lo.toList == (s.extract 0 lo.size).toList) = true := hL
    have HX : Hid ((Op.bytesLess (s.extract 0 lo.size).toList hi.toList || (s.extract 0 lo.size).toList == hi.toList) = WV) := Lib.hid (by rw [HW.out, hL]; rfl)
    clear hL HW
    go_enter Tryz.func20, Tryz.ntmps20
    go_wp2_with fail
    go_quiet (fail)
    go_wp2_with fail
    go_ret
    exact ⟨by rw [← HX.out]; rfl, dNb HB.out _⟩
theorem fdAt_inv (l : List Rg) (s : ByteArray) (hl : TabOK l) : ∀ k, k ≤ l.length → ((fdAt l s k).2 = false → fdAt l s k = (zRg, false)) ∧ ((fdAt l s k).2 = true → 1 ≤ (fdAt l s k).1.lo.size) := by
  intro k
  induction k with
  | zero => intro _; exact ⟨fun _ => rfl, fun h => by cases h⟩
  | succ k ih =>
    intro hk
    obtain ⟨i1, i2⟩ := ih (by omega)
    rw [fdAt_step l s k (by omega)]
    unfold fdStep
    split
    · refine ⟨fun h => (by cases h), fun _ => ?_⟩
      show 1 ≤ (rgAt l k).lo.size
      rw [rgAt_get l k (by omega)]
      exact (hl.good _ (List.getElem_mem _)).one
    · exact ⟨i1, i2⟩
/-- The step as the reference has it. -/
theorem fd_ref (s : ByteArray) (acc : Rg × Bool) (r : Rg) (hr : Good r) (h1 : acc.2 = false → acc = (zRg, false)) : (fdStep s acc r).1 = if (wiB s r.lo r.hi && decide (acc.1.lo.size < r.lo.size)) = true then r else acc.1 := by
  unfold fdStep
  have ho := hr.one
  cases h : acc.2
  · have e : acc.1.lo.size = 0 := by rw [h1 h]; rfl
    rw [e, decide_eq_true (show 0 < r.lo.size by omega)]
    simp only [Bool.not_false, Bool.true_or, Bool.and_true]
    split <;> rfl
  · simp only [Bool.not_true, Bool.false_or]
    split <;> rfl
theorem fd_flag (l : List Rg) (s : ByteArray) (hl : TabOK l) : (fdAt l s l.length).2 = decide ((fdAt l s l.length).1.lo.size ≠ 0) := by
  obtain ⟨h1, h2⟩ := fdAt_inv l s hl l.length (Nat.le_refl _)
  cases h : (fdAt l s l.length).2
  · rw [h1 h]; rfl
  · have := h2 h
    rw [decide_eq_true (by omega)]
theorem set4d {w : World} {b : Nat} {x0 x1 x2 x3 y0 y1 y2 y3 : Value} {T : TypeId} (h : w.heap[b]? = some (.cells #[x0, x1, x2, x3] T)) :
    (((((w.setCell ⟨b, 0, none⟩ y0).setCell ⟨b, 1, none⟩ y1).setCell ⟨b, 2, none⟩ y2).setCell ⟨b, 3, none⟩ y3).drew).heap[b]? = some (.cells #[y0, y1, y2, y3] T) := by
  have e : ∀ W : World, W.drew.heap = W.heap := fun _ => rfl
  rw [e]; exact set4 h
theorem set4d_below {B b : Nat} {w w2 : World} {y0 y1 y2 y3 : Value} (h : Below B w w2) (hb : B ≤ b) : Below B w (((((w2.setCell ⟨b, 0, none⟩ y0).setCell ⟨b, 1, none⟩ y1).setCell ⟨b, 2, none⟩ y2).setCell ⟨b, 3, none⟩ y3).drew) :=
  (set4_below h hb).trans (Below.drew (Below.refl _ _))
theorem load_set {w : World} {b : Nat} {x0 x1 x2 x3 : Value} {T : TypeId} (h : w.heap[b]? = some (.cells #[x0, x1, x2, x3] T)) : w.cell? ⟨b, 0, none⟩ = some x0 ∧ w.cell? ⟨b, 1, none⟩ = some x1 ∧ w.cell? ⟨b, 2, none⟩ = some x2 ∧ w.cell? ⟨b, 3, none⟩ = some x3 := ⟨cell_c h 0, cell_c h 1, cell_c h 2, cell_c h 3⟩
set_option maxRecDepth 1000000 in
set_option maxHeartbeats 12800000 in
theorem rfind_any (A : Option Addr) (cp : Nat) (l : List Rg) (s : ByteArray) (w : World) (hr : IsRow w A (l.flatMap rgF)) (hok : ∀ x ∈ l, RgOk x) (hc : l.length ≤ cp) (hm : cp ≤ maxLen) (hs : s.size ≤ maxLen) :
    Calls Tryz.prog 8 #[.slice A l.length cp, .string s] w (FdPost l s w) := by
  have HCK := Lib.hid (fun W h => rck_any A cp l W h hok hc hm)
  have HPN := Lib.hid (fun W => rpan_any s W hs)
  have HR := Lib.hid hr
  have HFD : Hid (fdR l s = if ckR l ≠ 0 ∨ panE s ≠ 0 then (zRg, false) else fdAt l s l.length) := Lib.hid rfl
  have HT := Lib.hid (fun h => (ck_iff l).1 h)
  have HP := Lib.hid (fun h => panE_size (s := s) h)
  unfold maxLen at hm
  unfold FdPost
  generalize fdR l s = FR at *
  generalize ckR l = E at *
  generalize panE s = F at *
  clear hr hok hs
  have hways : E ≠ 0 ∨ (E = 0 ∧ F ≠ 0) ∨ (E = 0 ∧ F = 0) := by omega
  rcases hways with hE | ⟨rfl, hF⟩ | ⟨rfl, rfl⟩
  · have hE' : (E != 0) = true := by simpa using hE
    have HX : Hid (FR = (zRg, false)) := Lib.hid (by rw [HFD.out, if_pos (.inl hE)])
    have HRB := Lib.hid (HR.out.below (box2 (w := w) (A := #[.string ⟨#[]⟩, .string ⟨#[]⟩, .string ⟨#[]⟩, .string ⟨#[]⟩]) (B := #[.string ⟨#[]⟩, .string ⟨#[]⟩, .string ⟨#[]⟩, .string ⟨#[]⟩]) (T := 26) (U := 26) (Below.refl _ _)).2.2)
    clear hE HFD HT HP
    go_enter Tryz.func8, Tryz.ntmps8
    go_wp2_with fail
    refine (HCK.out _ HRB.out).mono ?_
    rintro e w2 ⟨rfl, hb⟩
    have HB2 := Lib.hid (box2 hb)
    have f0 := cell_f HB2.out.1 0
    have f1 := cell_f HB2.out.1 1
    have f2 := cell_f HB2.out.1 2
    have f3 := cell_f HB2.out.1 3
    have g0 := cell_c HB2.out.1 0
    have g1 := cell_c HB2.out.1 1
    have g2 := cell_c HB2.out.1 2
    have g3 := cell_c HB2.out.1 3
    have j0 := cell_c HB2.out.2.1 0
    have j1 := cell_c HB2.out.2.1 1
    have j2 := cell_c HB2.out.2.1 2
    have j3 := cell_c HB2.out.2.1 3
    clear hb
    go_wp2_with fail
    refine bodyPost_ret (results_row_tmp (show Tryz.f8.results = #[.cell 4 26, .tmp 5] by kernel_rfl) _ _ w.heap.size 26 (rgC zRg) (0, 0) _ _ rfl rfl (set4 HB2.out.1) Tryz.underlying26 rfl (by kernel_rfl)) rfl ?_
    exact ⟨by rw [HX.out]; rfl, set4_below HB2.out.2.2 (Nat.le_refl _)⟩
  · have hF' : (F != 0) = true := by simpa using hF
    have HX : Hid (FR = (zRg, false)) := Lib.hid (by rw [HFD.out, if_pos (.inr hF)])
    have HRB := Lib.hid (HR.out.below (box2 (w := w) (A := #[.string ⟨#[]⟩, .string ⟨#[]⟩, .string ⟨#[]⟩, .string ⟨#[]⟩]) (B := #[.string ⟨#[]⟩, .string ⟨#[]⟩, .string ⟨#[]⟩, .string ⟨#[]⟩]) (T := 26) (U := 26) (Below.refl _ _)).2.2)
    clear hF HFD HT HP
    go_enter Tryz.func8, Tryz.ntmps8
    go_wp2_with fail
    refine (HCK.out _ HRB.out).mono ?_
    rintro e w1 ⟨rfl, hb⟩
    have HB1 := Lib.hid (box2 hb)
    clear hb
    go_wp2_with fail
    refine (HPN.out _).mono ?_
    rintro e w2 ⟨rfl, hb⟩
    have HB2 := Lib.hid (And.intro (blk_later HB1.out.1 hb) (And.intro (blk_later HB1.out.2.1 hb) (HB1.out.2.2.trans (hb.mono HB1.out.2.2.size))))
    have f0 := cell_f HB2.out.1 0
    have f1 := cell_f HB2.out.1 1
    have f2 := cell_f HB2.out.1 2
    have f3 := cell_f HB2.out.1 3
    have g0 := cell_c HB2.out.1 0
    have g1 := cell_c HB2.out.1 1
    have g2 := cell_c HB2.out.1 2
    have g3 := cell_c HB2.out.1 3
    have j0 := cell_c HB2.out.2.1 0
    have j1 := cell_c HB2.out.2.1 1
    have j2 := cell_c HB2.out.2.1 2
    have j3 := cell_c HB2.out.2.1 3
    clear hb
    go_wp2_with fail
    refine bodyPost_ret (results_row_tmp (show Tryz.f8.results = #[.cell 4 26, .tmp 5] by kernel_rfl) _ _ w.heap.size 26 (rgC zRg) (0, 0) _ _ rfl rfl (set4 HB2.out.1) Tryz.underlying26 rfl (by kernel_rfl)) rfl ?_
    exact ⟨by rw [HX.out]; rfl, set4_below HB2.out.2.2 (Nat.le_refl _)⟩
  · have HX : Hid (FR = fdAt l s l.length) := Lib.hid (by rw [HFD.out, if_neg (by simp)])
    have HRB := Lib.hid (HR.out.below (box2 (w := w) (A := #[.string ⟨#[]⟩, .string ⟨#[]⟩, .string ⟨#[]⟩, .string ⟨#[]⟩]) (B := #[.string ⟨#[]⟩, .string ⟨#[]⟩, .string ⟨#[]⟩, .string ⟨#[]⟩]) (T := 26) (U := 26) (Below.refl _ _)).2.2)
    have HTT := Lib.hid (HT.out rfl)
    have HPP := Lib.hid (HP.out rfl)
    have hl64 : l.length ≤ 64 := HTT.out.len
    clear HFD HT HP
    go_enter Tryz.func8, Tryz.ntmps8
    go_wp2_with fail
    refine (HCK.out _ HRB.out).mono ?_
    rintro e w1 ⟨rfl, hb⟩
    have HB1 := Lib.hid (box2 hb)
    clear hb
    go_wp2_with fail
    refine (HPN.out _).mono ?_
    rintro e w2 ⟨rfl, hb⟩
    have HST : Hid (w2.heap[w.heap.size]? = some (.cells (rgC zRg) 26) ∧ w2.heap[w.heap.size + 1]? = some (.cells (rgC (fdAt l s 0).1) 26) ∧ Below w.heap.size w w2) := Lib.hid ⟨blk_later HB1.out.1 hb, blk_later HB1.out.2.1 hb, HB1.out.2.2.trans (hb.mono HB1.out.2.2.size)⟩
    clear hb HB1 HRB HCK HPN
    go_wp2_with fail
    go_loopw [7] (fun i wr => ∃ k : Nat, k ≤ l.length ∧ i = .int .i64 k ∧ Hid (wr.heap[w.heap.size]? = some (.cells (rgC zRg) 26) ∧ wr.heap[w.heap.size + 1]? = some (.cells (rgC (fdAt l s k).1) 26) ∧ Below w.heap.size w wr)) (fun i _ => l.length - (intOf i).toNat)
    case atStart => exact ⟨0, Nat.zero_le _, rfl, HST⟩
    case round =>
      clear HST
      obtain ⟨k, hk, rfl, HW⟩ := hrel
      by_cases hlt : k < l.length
      · rcases row_rg HR.out k hlt with ⟨b, off, rfl, hcell⟩
        obtain ⟨d0, d1, d2, d3⟩ := hcell k hlt
        have c0 := cell_later HW.out.2.2 d0
        have c1 := cell_later HW.out.2.2 d1
        have c2 := cell_later HW.out.2.2 d2
        have c3 := cell_later HW.out.2.2 d3
        have hstep := fdAt_step l s k hlt
        have hG : Good (rgAt l k) := by rw [rgAt_get l k hlt]; exact HTT.out.good _ (List.getElem_mem hlt)
        have hinv := fdAt_inv l s HTT.out k (by omega)
        have href := fd_ref s (fdAt l s k) (rgAt l k) hG hinv.1
        rw [← hstep] at href
        have z0 := cell_c HW.out.2.1 0
        have kI : (k : Int) < (l.length : Int) := by omega
        have k0 : (0 : Int) ≤ (k : Int) := by omega
        have hbl : b < wr.heap.size := World.block_lt_of_cell? wr _ c0
        have hbb : w.heap.size + 1 < wr.heap.size := (Array.getElem?_eq_some_iff.1 HW.out.2.1).1
        clear d0 d1 d2 d3 hcell hstep hinv
        obtain ⟨nx, hnx⟩ : ∃ nx, (fdAt l s (k + 1)).1 = nx := ⟨_, rfl⟩
        have HNX := Lib.hid hnx
        rw [hnx] at href
        clear hnx
        have HG := Lib.hid hG
        clear hG
        generalize (fdAt l s k).1 = acc at *
        obtain ⟨alo, ahi, ais, apr⟩ := acc
        generalize rgAt l k = r at *
        obtain ⟨lo, hi, is, pr⟩ := r
        simp only at href c0 c1 c2 c3
        have HCT := Lib.hid (fun W => rcont_any ⟨lo, hi, is, pr⟩ s W HG.out HPP.out)
        unfold rgC at HCT z0 HW
        simp only at HCT z0 HW
        have HKW : Hid (∀ W, Below wr.heap.size wr W → (W.cell? ⟨b, off + k * 4, none⟩ = some (.string lo) ∧ W.cell? ⟨b, off + k * 4 + 1, none⟩ = some (.string hi) ∧ W.cell? ⟨b, off + k * 4 + 2, none⟩ = some (.string is) ∧ W.cell? ⟨b, off + k * 4 + 3, none⟩ = some (.string pr)) ∧ W.cell? ⟨w.heap.size + 1, 0, none⟩ = some (.string alo)) := Lib.hid (fun W h => ⟨⟨cell_later h c0, cell_later h c1, cell_later h c2, cell_later h c3⟩, cell_later h (cell_c HW.out.2.1 0)⟩)
        have HWK : Hid (∀ W, Below wr.heap.size wr W → W.heap[w.heap.size]? = some (.cells (rgC zRg) 26) ∧ W.heap[w.heap.size + 1]? = some (.cells #[.string alo, .string ahi, .string ais, .string apr] 26) ∧ Below w.heap.size w W) := Lib.hid (fun W h => ⟨blk_later HW.out.1 h, blk_later HW.out.2.1 h, HW.out.2.2.trans (h.mono HW.out.2.2.size)⟩)
        cases hw : wiB s lo hi
        · rw [hw, Bool.false_and] at href
          rw [hw] at HCT
          obtain rfl : nx = ⟨alo, ahi, ais, apr⟩ := by rw [href]; rfl
          clear hw href
          go_wp2_with fail
          have HBW := Lib.hid (Below.drew (Below.refl wr.heap.size wr))
          clear c0 c1 c2 c3 z0
          refine wp_region_held_drew (S := (fun W => (W.cell? ⟨b, off + k * 4, none⟩ = some (.string lo) ∧ W.cell? ⟨b, off + k * 4 + 1, none⟩ = some (.string hi) ∧ W.cell? ⟨b, off + k * 4 + 2, none⟩ = some (.string is) ∧ W.cell? ⟨b, off + k * 4 + 3, none⟩ = some (.string pr)) ∧ W.cell? ⟨w.heap.size + 1, 0, none⟩ = some (.string alo))) (by kernel_rfl) ?_ (fun hHeld => ?_)
          · exact HKW.out _ HBW.out
          refine wpAnyH_take (i := 0) (oi := { dst := some 24, op := Op.move (Operand.tmp 0), type := 22, pos := "ref.go:82", after := #[], guard := none }) (v := .slice (some ⟨b, off, none⟩) l.length cp) rfl (by kernel_rfl) (by kernel_rfl) (by kernel_rfl) (fun _ _ _ h => h) (Or.inl ⟨by rfl, by intro w hSw; (try dsimp only at hSw); go_simp⟩) (by assumption) ?_
          simp only [Act.put, List.setIfInBounds_toArray, List.set_cons_zero, List.set_cons_succ]
          refine wpAnyH_take (i := 1) (oi := { dst := some 25, op := Op.move (Operand.tmp 7), type := 3, pos := "ref.go:82", after := #[], guard := none }) (v := .int .i64 k) rfl (by kernel_rfl) (by kernel_rfl) (by kernel_rfl) (fun _ _ _ h => h) (Or.inl ⟨by rfl, by intro w hSw; (try dsimp only at hSw); go_simp⟩) (by assumption) ?_
          simp only [Act.put, List.setIfInBounds_toArray, List.set_cons_zero, List.set_cons_succ]
          refine wpAnyH_take (i := 2) (oi := { dst := some 26, op := Op.indexAddr 22 (Operand.tmp 24) (Operand.tmp 25), type := 0, pos := "ref.go:82", after := #[{ on := 0, ground := Ground.data }, { on := 1, ground := Ground.data }], guard := none }) (v := .pointer (some ⟨b, off + k * 4, none⟩)) rfl (by kernel_rfl) (by kernel_rfl) (by kernel_rfl) (fun _ _ _ h => h) (Or.inl ⟨by rfl, by intro w hSw; (try dsimp only at hSw); go_simp⟩) (by assumption) ?_
          simp only [Act.put, List.setIfInBounds_toArray, List.set_cons_zero, List.set_cons_succ]
          refine wpAnyH_take (i := 3) (oi := { dst := some 27, op := Op.load 26 (Operand.tmp 26), type := 26, pos := "ref.go:82", after := #[{ on := 2, ground := Ground.data }], guard := none }) (v := .agg #[.string lo, .string hi, .string is, .string pr]) rfl (by kernel_rfl) (by kernel_rfl) (by kernel_rfl) (fun _ _ _ h => h) (Or.inl ⟨by rfl, by intro w hSw; (try dsimp only at hSw); go_simp⟩) (by assumption) ?_
          simp only [Act.put, List.setIfInBounds_toArray, List.set_cons_zero, List.set_cons_succ]
          refine wpAnyH_take (i := 4) (oi := { dst := some 28, op := Op.move (Operand.tmp 1), type := 9, pos := "ref.go:82", after := #[], guard := none }) (v := .string s) rfl (by kernel_rfl) (by kernel_rfl) (by kernel_rfl) (fun _ _ _ h => h) (Or.inl ⟨by rfl, by intro w hSw; (try dsimp only at hSw); go_simp⟩) (by assumption) ?_
          simp only [Act.put, List.setIfInBounds_toArray, List.set_cons_zero, List.set_cons_succ]
          refine wpAnyH_ready (rs := [5]) (by kernel_rfl) (by simp) ?_
          refine AllReadyH.cons (o := { dst := some 29, op := Op.call { callee := Callee.value (Operand.func 20), args := #[Operand.tmp 27, Operand.tmp 28], argTypes := #[26, 9] }, type := 4, pos := "ref.go:82", after := #[{ on := 3, ground := Ground.data }, { on := 4, ground := Ground.data }], guard := none }) rfl (fun K hK => ?_) AllReadyH.nil
          go_simp
          go_at_call 20
          refine (HCT.out _).mono ?_
          rintro e wq ⟨rfl, hb⟩
          have HBW := Lib.hid (HBW.out.trans (hb.mono HBW.out.size))
          clear hb
          go_wp2_with fail
          refine hK.out _ _ ?_ (fun hHeld => ?_)
          · exact HKW.out _ HBW.out
          clear hK K
          try simp only [Act.put, List.setIfInBounds_toArray, List.set_cons_zero, List.set_cons_succ]
          refine wpAnyH_take (i := 6) (oi := { dst := some 30, op := Op.move (Operand.tmp 29), type := 4, pos := "ref.go:82", after := #[{ on := 5, ground := Ground.data }, { on := 5, ground := Ground.chain }], guard := none }) (v := .bool false) rfl (by kernel_rfl) (by kernel_rfl) (by kernel_rfl) (fun _ _ _ h => h) (Or.inl ⟨by rfl, by intro w hSw; (try dsimp only at hSw); go_simp⟩) (by assumption) ?_
          simp only [Act.put, List.setIfInBounds_toArray, List.set_cons_zero, List.set_cons_succ]
          refine wpAnyH_take (i := 7) (oi := { dst := some 31, op := Op.move (Operand.tmp 0), type := 22, pos := "ref.go:82", after := #[{ on := 6, ground := Ground.guard }], guard := some (6, true) }) (v := undef) rfl (by kernel_rfl) (by kernel_rfl) (by kernel_rfl) (fun _ _ _ h => h) (Or.inr ⟨by rfl, rfl⟩) (by assumption) ?_
          simp only [Act.put, List.setIfInBounds_toArray, List.set_cons_zero, List.set_cons_succ]
          refine wpAnyH_take (i := 8) (oi := { dst := some 32, op := Op.move (Operand.tmp 7), type := 3, pos := "ref.go:82", after := #[{ on := 6, ground := Ground.guard }], guard := some (6, true) }) (v := undef) rfl (by kernel_rfl) (by kernel_rfl) (by kernel_rfl) (fun _ _ _ h => h) (Or.inr ⟨by rfl, rfl⟩) (by assumption) ?_
          simp only [Act.put, List.setIfInBounds_toArray, List.set_cons_zero, List.set_cons_succ]
          refine wpAnyH_take (i := 9) (oi := { dst := some 33, op := Op.indexAddr 22 (Operand.tmp 31) (Operand.tmp 32), type := 0, pos := "ref.go:82", after := #[{ on := 7, ground := Ground.data }, { on := 8, ground := Ground.data }, { on := 6, ground := Ground.guard }], guard := some (6, true) }) (v := undef) rfl (by kernel_rfl) (by kernel_rfl) (by kernel_rfl) (fun _ _ _ h => h) (Or.inr ⟨by rfl, rfl⟩) (by assumption) ?_
          simp only [Act.put, List.setIfInBounds_toArray, List.set_cons_zero, List.set_cons_succ]
          refine wpAnyH_take (i := 10) (oi := { dst := some 34, op := Op.fieldAddr 26 (Operand.tmp 33) 0, type := 0, pos := "ref.go:82", after := #[{ on := 9, ground := Ground.data }, { on := 6, ground := Ground.guard }], guard := some (6, true) }) (v := undef) rfl (by kernel_rfl) (by kernel_rfl) (by kernel_rfl) (fun _ _ _ h => h) (Or.inr ⟨by rfl, rfl⟩) (by assumption) ?_
          simp only [Act.put, List.setIfInBounds_toArray, List.set_cons_zero, List.set_cons_succ]
          refine wpAnyH_take (i := 11) (oi := { dst := some 35, op := Op.load 9 (Operand.tmp 34), type := 9, pos := "ref.go:82", after := #[{ on := 10, ground := Ground.data }, { on := 6, ground := Ground.guard }], guard := some (6, true) }) (v := undef) rfl (by kernel_rfl) (by kernel_rfl) (by kernel_rfl) (fun _ _ _ h => h) (Or.inr ⟨by rfl, rfl⟩) (by assumption) ?_
          simp only [Act.put, List.setIfInBounds_toArray, List.set_cons_zero, List.set_cons_succ]
          refine wpAnyH_take (i := 12) (oi := { dst := some 36, op := Op.call { callee := Callee.builtin Builtin.len, args := #[Operand.tmp 35], argTypes := #[9] }, type := 3, pos := "ref.go:82", after := #[{ on := 11, ground := Ground.data }, { on := 6, ground := Ground.guard }], guard := some (6, true) }) (v := undef) rfl (by kernel_rfl) (by kernel_rfl) (by kernel_rfl) (fun _ _ _ h => h) (Or.inr ⟨by rfl, rfl⟩) (by assumption) ?_
          simp only [Act.put, List.setIfInBounds_toArray, List.set_cons_zero, List.set_cons_succ]
          refine wpAnyH_take (i := 13) (oi := { dst := some 37, op := Op.fieldAddr 26 (Operand.tmp 6) 0, type := 0, pos := "ref.go:82", after := #[{ on := 6, ground := Ground.guard }], guard := some (6, true) }) (v := undef) rfl (by kernel_rfl) (by kernel_rfl) (by kernel_rfl) (fun _ _ _ h => h) (Or.inr ⟨by rfl, rfl⟩) (by assumption) ?_
          simp only [Act.put, List.setIfInBounds_toArray, List.set_cons_zero, List.set_cons_succ]
          refine wpAnyH_take (i := 14) (oi := { dst := some 38, op := Op.load 9 (Operand.tmp 37), type := 9, pos := "ref.go:82", after := #[{ on := 13, ground := Ground.data }, { on := 6, ground := Ground.guard }], guard := some (6, true) }) (v := undef) rfl (by kernel_rfl) (by kernel_rfl) (by kernel_rfl) (fun _ _ _ h => h) (Or.inr ⟨by rfl, rfl⟩) (by assumption) ?_
          simp only [Act.put, List.setIfInBounds_toArray, List.set_cons_zero, List.set_cons_succ]
          refine wpAnyH_take (i := 15) (oi := { dst := some 39, op := Op.call { callee := Callee.builtin Builtin.len, args := #[Operand.tmp 38], argTypes := #[9] }, type := 3, pos := "ref.go:82", after := #[{ on := 14, ground := Ground.data }, { on := 6, ground := Ground.guard }], guard := some (6, true) }) (v := undef) rfl (by kernel_rfl) (by kernel_rfl) (by kernel_rfl) (fun _ _ _ h => h) (Or.inr ⟨by rfl, rfl⟩) (by assumption) ?_
          simp only [Act.put, List.setIfInBounds_toArray, List.set_cons_zero, List.set_cons_succ]
          refine wpAnyH_take (i := 16) (oi := { dst := some 40, op := Op.binOp BinOp.gtr 3 (Operand.tmp 36) (Operand.tmp 39) 3, type := 4, pos := "ref.go:82", after := #[{ on := 12, ground := Ground.data }, { on := 15, ground := Ground.data }, { on := 6, ground := Ground.guard }], guard := some (6, true) }) (v := undef) rfl (by kernel_rfl) (by kernel_rfl) (by kernel_rfl) (fun _ _ _ h => h) (Or.inr ⟨by rfl, rfl⟩) (by assumption) ?_
          simp only [Act.put, List.setIfInBounds_toArray, List.set_cons_zero, List.set_cons_succ]
          refine wpAnyH_take (i := 17) (oi := { dst := some 41, op := Op.pick (Operand.tmp 30) (Operand.tmp 40) (Operand.const (Value.bool false)), type := 4, pos := "ref.go:82", after := #[{ on := 6, ground := Ground.data }, { on := 16, ground := Ground.data }], guard := none }) (v := .bool false) rfl (by kernel_rfl) (by kernel_rfl) (by kernel_rfl) (fun _ _ _ h => h) (Or.inl ⟨by rfl, by intro w hSw; (try dsimp only at hSw); go_simp⟩) (by assumption) ?_
          simp only [Act.put, List.setIfInBounds_toArray, List.set_cons_zero, List.set_cons_succ]
          refine wpAnyH_done (by kernel_rfl) ?_ _
          go_wp2_with fail
          go_roundw
          case rel => exact ⟨k + 1, by omega, by go_num, by rw [HNX.out]; exact Lib.hid (HWK.out _ HBW.out)⟩
          case measure => simp [intOf]; omega
        · rw [hw, Bool.true_and] at href
          rw [hw] at HCT
          clear hw
          by_cases hsz : alo.size < lo.size
          · rw [if_pos (decide_eq_true hsz)] at href
            have hszI : (alo.size : Int) < (lo.size : Int) := by omega
            subst href
            clear hsz
            go_wp2_with fail
            have HBW := Lib.hid (Below.drew (Below.refl wr.heap.size wr))
            clear c0 c1 c2 c3 z0
            go_region_held3 (fun W => (W.cell? ⟨b, off + k * 4, none⟩ = some (.string lo) ∧ W.cell? ⟨b, off + k * 4 + 1, none⟩ = some (.string hi) ∧ W.cell? ⟨b, off + k * 4 + 2, none⟩ = some (.string is) ∧ W.cell? ⟨b, off + k * 4 + 3, none⟩ = some (.string pr)) ∧ W.cell? ⟨w.heap.size + 1, 0, none⟩ = some (.string alo))
              (exact HKW.out _ HBW.out)
              (first
                | (go_at_call 20; (with_reducible refine (HCT.out _).mono ?_); rintro e wq ⟨rfl, hb⟩; have HBW := Lib.hid (HBW.out.trans (hb.mono HBW.out.size)); clear hb))
            have H5 := Lib.hid (HWK.out _ HBW.out)
            obtain ⟨⟨c0, c1, c2, c3⟩, z0⟩ := HKW.out _ HBW.out
            have z1 := cell_c H5.out.2.1 1
            have z2 := cell_c H5.out.2.1 2
            have z3 := cell_c H5.out.2.1 3
            have f0 := cell_f H5.out.2.1 0
            have f1 := cell_f H5.out.2.1 1
            have f2 := cell_f H5.out.2.1 2
            have f3 := cell_f H5.out.2.1 3
            go_wp2_with fail
            go_roundw
            case rel => exact ⟨k + 1, by omega, by go_num, by rw [HNX.out]; exact Lib.hid ⟨set4_other H5.out.1 (by omega), set4 H5.out.2.1, set4_below H5.out.2.2 (by omega)⟩⟩
            case measure => simp [intOf]; omega
          · rw [if_neg (by simp; omega)] at href
            have hszI : ¬ (alo.size : Int) < (lo.size : Int) := by omega
            subst href
            clear hsz
            go_wp2_with fail
            have HBW := Lib.hid (Below.drew (Below.refl wr.heap.size wr))
            clear c0 c1 c2 c3 z0
            go_region_held3 (fun W => (W.cell? ⟨b, off + k * 4, none⟩ = some (.string lo) ∧ W.cell? ⟨b, off + k * 4 + 1, none⟩ = some (.string hi) ∧ W.cell? ⟨b, off + k * 4 + 2, none⟩ = some (.string is) ∧ W.cell? ⟨b, off + k * 4 + 3, none⟩ = some (.string pr)) ∧ W.cell? ⟨w.heap.size + 1, 0, none⟩ = some (.string alo))
              (exact HKW.out _ HBW.out)
              (first
                | (go_at_call 20; (with_reducible refine (HCT.out _).mono ?_); rintro e wq ⟨rfl, hb⟩; have HBW := Lib.hid (HBW.out.trans (hb.mono HBW.out.size)); clear hb))
            go_wp2_with fail
            go_roundw
            case rel => exact ⟨k + 1, by omega, by go_num, by rw [HNX.out]; exact Lib.hid (HWK.out _ HBW.out)⟩
            case measure => simp [intOf]; omega
      · obtain rfl : k = l.length := by omega
        have hflag := fd_flag l s HTT.out
        generalize fdAt l s l.length = acc at *
        obtain ⟨⟨alo, ahi, ais, apr⟩, fnd⟩ := acc
        unfold rgC zRg at HW
        simp only at HW hflag
        have z0 := cell_c HW.out.2.1 0
        have z1 := cell_c HW.out.2.1 1
        have z2 := cell_c HW.out.2.1 2
        have z3 := cell_c HW.out.2.1 3
        have f0 := cell_f HW.out.1 0
        have f1 := cell_f HW.out.1 1
        have f2 := cell_f HW.out.1 2
        have f3 := cell_f HW.out.1 3
        have g0 := cell_c HW.out.1 0
        have g1 := cell_c HW.out.1 1
        have g2 := cell_c HW.out.1 2
        have g3 := cell_c HW.out.1 3
        have hem : alo.toList.isEmpty = !fnd := by
          rw [hflag, tl]
          have e : alo.data.toList.length = alo.size := rfl
          cases hh : alo.data.toList with
          | nil => rw [hh] at e; rw [← e]; rfl
          | cons x y => rw [hh] at e; rw [← e]; simp
        have HEM := Lib.hid (show (!alo.toList.isEmpty) = fnd by rw [hem, Bool.not_not])
        clear hflag hem
        go_wp2_with fail
        go_region
        all_goals go_wp2_with fail
        refine bodyPost_ret (results_row_tmp (show Tryz.f8.results = #[.cell 4 26, .tmp 5] by kernel_rfl) _ _ w.heap.size 26 (rgC ⟨alo, ahi, ais, apr⟩) (0, 0) _ _ rfl rfl (set4d HW.out.1) Tryz.underlying26 rfl (by kernel_rfl)) rfl ?_
        exact ⟨by rw [HX.out, ← HEM.out]; rfl, set4d_below HW.out.2.2 (Nat.le_refl _)⟩
end Go.Proofs.YtiegoffdbhmfbaaGreatDoor
