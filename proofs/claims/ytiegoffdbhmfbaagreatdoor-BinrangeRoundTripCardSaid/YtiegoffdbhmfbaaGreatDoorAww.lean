/- The walk of awake. -/
import Derived.Test.YtiegoffdbhmfbaaGreatDoorAwk
namespace Go.Proofs.YtiegoffdbhmfbaaGreatDoor
set_option linter.unusedVariables false
open Go.RowKit

theorem goods_ok {l : List Rg} (h : TabOK l) : ∀ x ∈ l, RgOk x := h.oks
theorem eqr (a b c d : ByteArray) (w : World) : (binOp .eql 26 (.agg #[.string a, .string b, .string c, .string d]) (.agg #[.string a, .string b, .string c, .string d])).run Tryz.prog w = .ok (.bool true) w := by
  have := eq_rg ⟨a, b, c, d⟩ ⟨a, b, c, d⟩ w
  rw [(rgE_iff _ _).2 rfl] at this
  exact this
set_option maxRecDepth 1000000 in
set_option maxHeartbeats 12800000 in
theorem awake_any (w : World) : Calls Tryz.prog 6 #[] w fun e w' => e = .returned (.bool true) ∧ Below w.heap.size w w' := by
  have HMA := Lib.hid mkA
  have HMB := Lib.hid mkB
  unfold preA at HMA
  unfold preB at HMB
  have HFD := Lib.hid (fun (g : Nat) (W : World) (h : RowL g W [r0, r1] 2 W) => find_any (some ⟨g, 0, none⟩) 2 [r0, r1] panA W h.isRow t_r.oks (by decide) (by decide) (by decide))
  have HFE := Lib.hid (fun (g : Nat) (W : World) (h : RowL g W [r0, r1] 2 W) => find_any (some ⟨g, 0, none⟩) 2 [r0, r1] panB W h.isRow t_r.oks (by decide) (by decide) (by decide))
  have HMR := Lib.hid (fun (v : Value) (W : World) (h : SlR W v [q0, q1]) => mrg_any v [q0, q1] W h t_q.oks)
  have HFM := Lib.hid (fun (v : Value) (W : World) (h : SlR W v [r0]) => fmt_any v [r0] W h t_r0.oks)
  unfold FdPost at HFD HFE
  unfold MrgPost at HMR
  unfold FmtPost at HFM
  rw [fd_A] at HFD
  rw [fd_B] at HFE
  rw [fmt_r0] at HFM
  rw [(ck_iff _).2 t_q] at HMR
  have HRW := Lib.hid (fun (g : Nat) (W : World) h => @row8 W g r0 r1 h)
  have HRW' := Lib.hid (fun (g : Nat) (W : World) h => @row8' W g r0 r1 h)
  have HRQ := Lib.hid (fun (g : Nat) (W : World) h => SlR.of_rowL (@row8 W g q0 q1 h) (by simp) (by decide))
  unfold rgC r0 r1 at HFD HFE
  unfold r0 r1 at HRW HRW'
  unfold r0 at HFM
  unfold q0 q1 at HMR HRQ
  simp only [List.length_cons, List.length_nil, Nat.zero_add, Nat.reduceAdd] at HFD HFE HRW HRW' HRQ
  go_enter Tryz.func6, Tryz.ntmps6
  go_wp2_with fail
  refine (HMA.out _).mono ?_
  rintro e w1 ⟨rfl, hb⟩
  have HB := Lib.hid (box1 hb).2.2
  have HK := Lib.hid (box1 hb).1
  have hlt := (box1 hb).2.1
  clear hb
  go_wp2_with fail
  refine (HMB.out _).mono ?_
  rintro e w2 ⟨rfl, hb⟩
  have HB2 := Lib.hid (HB.out.trans (hb.mono HB.out.size))
  have HK2 := Lib.hid (blk_later HK.out hb)
  clear hb HB HK hlt
  go_wp2_with fail
  refine (HFD.out w.heap.size _ (HRW.out _ _ HK2.out)).mono ?_
  rintro e w3 ⟨rfl, hb⟩
  have HB3 := Lib.hid (HB2.out.trans (hb.mono HB2.out.size))
  have HK3 := Lib.hid (blk_later HK2.out hb)
  clear hb HB2 HK2
  have HX := Lib.hid (heap_alloc_new w3 (.cells #[.string ⟨#[52, 48, 48, 48]⟩, .string ⟨#[52, 48, 57, 57]⟩, .string ⟨#[98, 97, 110, 107, 116, 119, 111]⟩, .string ⟨#[103, 111, 108, 100]⟩] 26))
  have HA3 := Lib.hid (alloc_lt w3 (.cells #[.string ⟨#[52, 48, 48, 48]⟩, .string ⟨#[52, 48, 57, 57]⟩, .string ⟨#[98, 97, 110, 107, 116, 119, 111]⟩, .string ⟨#[103, 111, 108, 100]⟩] 26))
  have HB4 := Lib.hid (HB3.out.trans (HA3.out.mono HB3.out.size))
  have HK4 := Lib.hid (blk_later HK3.out HA3.out)
  go_wp2_with fail
  refine (HFE.out w.heap.size _ (HRW.out _ _ HK4.out)).mono ?_
  rintro e w5 ⟨rfl, hb⟩
  have HB5 := Lib.hid (HB4.out.trans (hb.mono HB4.out.size))
  have HK5 := Lib.hid (blk_later HK4.out hb)
  have HX5 := Lib.hid (blk_later HX.out hb)
  generalize w3.heap.size = X at *
  clear hb HB3 HK3 HB4 HK4 HX HA3
  have HY := Lib.hid (heap_alloc_new w5 (.cells #[.string ⟨#[52]⟩, .string ⟨#[52]⟩, .string ⟨#[98, 97, 110, 107, 111, 110, 101]⟩, .string ⟨#[98, 97, 115, 105, 99]⟩] 26))
  have HA5 := Lib.hid (alloc_lt w5 (.cells #[.string ⟨#[52]⟩, .string ⟨#[52]⟩, .string ⟨#[98, 97, 110, 107, 111, 110, 101]⟩, .string ⟨#[98, 97, 115, 105, 99]⟩] 26))
  have HB6 := Lib.hid (HB5.out.trans (HA5.out.mono HB5.out.size))
  have HK6 := Lib.hid (blk_later HK5.out HA5.out)
  have HX6 := Lib.hid (blk_later HX5.out HA5.out)
  obtain ⟨W6, hW6⟩ : ∃ W6, w5.alloc (.cells #[.string ⟨#[52]⟩, .string ⟨#[52]⟩, .string ⟨#[98, 97, 110, 107, 111, 110, 101]⟩, .string ⟨#[98, 97, 115, 105, 99]⟩] 26) = W6 := ⟨_, rfl⟩
  rw [hW6] at HY HA5 HB6 HK6 HX6
  have HW6 := Lib.hid hW6
  have HMG := Lib.hid (fun r (h : MrgOf [q0, q1] r) => mrg_q h)
  unfold q0 q1 q2 at HMG
  clear HB5 HK5 HX5 HA5
  have HZ := Lib.hid (heap_alloc_new W6 (.cells #[.string ⟨#[52, 48, 48, 49, 48, 48]⟩, .string ⟨#[52, 48, 48, 49, 57, 57]⟩, .string ⟨#[97]⟩, .string ⟨#[98]⟩, .string ⟨#[52, 48, 48, 48, 48, 48]⟩, .string ⟨#[52, 48, 48, 48, 57, 57]⟩, .string ⟨#[97]⟩, .string ⟨#[98]⟩] 26))
  have HA6 := Lib.hid (alloc_lt W6 (.cells #[.string ⟨#[52, 48, 48, 49, 48, 48]⟩, .string ⟨#[52, 48, 48, 49, 57, 57]⟩, .string ⟨#[97]⟩, .string ⟨#[98]⟩, .string ⟨#[52, 48, 48, 48, 48, 48]⟩, .string ⟨#[52, 48, 48, 48, 57, 57]⟩, .string ⟨#[97]⟩, .string ⟨#[98]⟩] 26))
  go_wp2_with fail
  refine (HMR.out _ _ (HRQ.out _ _ HZ.out)).mono ?_
  rintro e w7 ⟨v6, r, rfl, hsl, hb, hm, -⟩
  obtain rfl := HMG.out _ (hm trivial)
  have HB7 := Lib.hid (HB6.out.trans ((HA6.out.trans (hb.mono HA6.out.size)).mono HB6.out.size))
  have hb6 := HA6.out.trans (hb.mono HA6.out.size)
  have HK7 := Lib.hid (blk_later HK6.out hb6)
  have HX7 := Lib.hid (blk_later HX6.out hb6)
  have HY7 := Lib.hid (blk_later HY.out hb6)
  obtain ⟨A6, c6, rfl, hrow, -, -, -⟩ := hsl.form
  obtain ⟨b6, o6, rfl, hcell⟩ := row_rg hrow 0 (by simp)
  obtain ⟨j0, j1, -, -⟩ := hcell 0 (by simp)
  have HJ : Hid (w7.cell? ⟨b6, o6, none⟩ = some (.string ⟨#[52, 48, 48, 48, 48, 48]⟩) ∧ w7.cell? ⟨b6, o6 + 1, none⟩ = some (.string ⟨#[52, 48, 48, 49, 57, 57]⟩)) := Lib.hid ⟨by simpa [rgAt] using j0, by simpa [rgAt] using j1⟩
  have hlt6 : b6 < w7.heap.size := World.block_lt_of_cell? w7 _ HJ.out.1
  clear hb hm hsl hrow hcell j0 j1 hb6 HZ HA6 HB6 HK6 HX6 HY HMG HRQ HMR HFD HFE HMA HMB HW6 hW6
  generalize w5.heap.size = Y at *
  simp only [List.length_cons, List.length_nil, Nat.zero_add]
  go_wp2_with fail
  have heq1 := fun W => eqr ⟨#[52, 48, 48, 48]⟩ ⟨#[52, 48, 57, 57]⟩ ⟨#[98, 97, 110, 107, 116, 119, 111]⟩ ⟨#[103, 111, 108, 100]⟩ W
  have heq2 := fun W => eqr ⟨#[52]⟩ ⟨#[52]⟩ ⟨#[98, 97, 110, 107, 111, 110, 101]⟩ ⟨#[98, 97, 115, 105, 99]⟩ W
  have HBW : Hid (Below w7.heap.size w7 w7.drew) := Lib.hid (Below.refl _ _).drew
  have HKEEP : Hid (∀ W, Below w7.heap.size w7 W → ((W.cell? ⟨w.heap.size, 0, none⟩ = some (.string ⟨#[52]⟩) ∧ W.cell? ⟨w.heap.size, 1, none⟩ = some (.string ⟨#[52]⟩) ∧ W.cell? ⟨w.heap.size, 2, none⟩ = some (.string ⟨#[98, 97, 110, 107, 111, 110, 101]⟩) ∧ W.cell? ⟨w.heap.size, 3, none⟩ = some (.string ⟨#[98, 97, 115, 105, 99]⟩)) ∧
      (W.cell? ⟨w.heap.size, 4, none⟩ = some (.string ⟨#[52, 48, 48, 48]⟩) ∧ W.cell? ⟨w.heap.size, 5, none⟩ = some (.string ⟨#[52, 48, 57, 57]⟩) ∧ W.cell? ⟨w.heap.size, 6, none⟩ = some (.string ⟨#[98, 97, 110, 107, 116, 119, 111]⟩) ∧ W.cell? ⟨w.heap.size, 7, none⟩ = some (.string ⟨#[103, 111, 108, 100]⟩)) ∧
      (W.cell? ⟨X, 0, none⟩ = some (.string ⟨#[52, 48, 48, 48]⟩) ∧ W.cell? ⟨X, 1, none⟩ = some (.string ⟨#[52, 48, 57, 57]⟩) ∧ W.cell? ⟨X, 2, none⟩ = some (.string ⟨#[98, 97, 110, 107, 116, 119, 111]⟩) ∧ W.cell? ⟨X, 3, none⟩ = some (.string ⟨#[103, 111, 108, 100]⟩)) ∧
      (W.cell? ⟨Y, 0, none⟩ = some (.string ⟨#[52]⟩) ∧ W.cell? ⟨Y, 1, none⟩ = some (.string ⟨#[52]⟩) ∧ W.cell? ⟨Y, 2, none⟩ = some (.string ⟨#[98, 97, 110, 107, 111, 110, 101]⟩) ∧ W.cell? ⟨Y, 3, none⟩ = some (.string ⟨#[98, 97, 115, 105, 99]⟩)) ∧
      (W.cell? ⟨b6, o6, none⟩ = some (.string ⟨#[52, 48, 48, 48, 48, 48]⟩) ∧ W.cell? ⟨b6, o6 + 1, none⟩ = some (.string ⟨#[52, 48, 48, 49, 57, 57]⟩)))) := Lib.hid (fun W h => by
    have k := blk_later HK7.out h
    have x := blk_later HX7.out h
    have y := blk_later HY7.out h
    exact ⟨⟨cell_c k 0, cell_c k 1, cell_c k 2, cell_c k 3⟩, ⟨cell_c k 4, cell_c k 5, cell_c k 6, cell_c k 7⟩, ⟨cell_c x 0, cell_c x 1, cell_c x 2, cell_c x 3⟩, ⟨cell_c y 0, cell_c y 1, cell_c y 2, cell_c y 3⟩, cell_later h HJ.out.1, cell_later h HJ.out.2⟩)
  have HFM2 : Hid (∀ W, Below w7.heap.size w7 W → Calls Tryz.prog 9 #[.slice (some ⟨w.heap.size, 0, none⟩) 1 2] W fun e w' => e = .returned (.string ⟨#[52, 45, 52, 32, 98, 97, 110, 107, 111, 110, 101, 32, 98, 97, 115, 105, 99, 59, 10]⟩) ∧ Below W.heap.size W w') := Lib.hid (fun W h => HFM.out _ W (HRW'.out _ _ (blk_later HK7.out h)))
  have HSW : Hid (Below w7.heap.size w7 w7.drew) := HBW
  clear HFM HRW HRW' HK7 HX7 HY7 HJ
  go_region_held3 (fun W => (W.cell? ⟨w.heap.size, 0, none⟩ = some (.string ⟨#[52]⟩) ∧ W.cell? ⟨w.heap.size, 1, none⟩ = some (.string ⟨#[52]⟩) ∧ W.cell? ⟨w.heap.size, 2, none⟩ = some (.string ⟨#[98, 97, 110, 107, 111, 110, 101]⟩) ∧ W.cell? ⟨w.heap.size, 3, none⟩ = some (.string ⟨#[98, 97, 115, 105, 99]⟩)) ∧
      (W.cell? ⟨w.heap.size, 4, none⟩ = some (.string ⟨#[52, 48, 48, 48]⟩) ∧ W.cell? ⟨w.heap.size, 5, none⟩ = some (.string ⟨#[52, 48, 57, 57]⟩) ∧ W.cell? ⟨w.heap.size, 6, none⟩ = some (.string ⟨#[98, 97, 110, 107, 116, 119, 111]⟩) ∧ W.cell? ⟨w.heap.size, 7, none⟩ = some (.string ⟨#[103, 111, 108, 100]⟩)) ∧
      (W.cell? ⟨X, 0, none⟩ = some (.string ⟨#[52, 48, 48, 48]⟩) ∧ W.cell? ⟨X, 1, none⟩ = some (.string ⟨#[52, 48, 57, 57]⟩) ∧ W.cell? ⟨X, 2, none⟩ = some (.string ⟨#[98, 97, 110, 107, 116, 119, 111]⟩) ∧ W.cell? ⟨X, 3, none⟩ = some (.string ⟨#[103, 111, 108, 100]⟩)) ∧
      (W.cell? ⟨Y, 0, none⟩ = some (.string ⟨#[52]⟩) ∧ W.cell? ⟨Y, 1, none⟩ = some (.string ⟨#[52]⟩) ∧ W.cell? ⟨Y, 2, none⟩ = some (.string ⟨#[98, 97, 110, 107, 111, 110, 101]⟩) ∧ W.cell? ⟨Y, 3, none⟩ = some (.string ⟨#[98, 97, 115, 105, 99]⟩)) ∧
      (W.cell? ⟨b6, o6, none⟩ = some (.string ⟨#[52, 48, 48, 48, 48, 48]⟩) ∧ W.cell? ⟨b6, o6 + 1, none⟩ = some (.string ⟨#[52, 48, 48, 49, 57, 57]⟩)))
    (exact HKEEP.out _ HBW.out)
    (first
      | (go_at_call 9; (with_reducible refine (HFM2.out _ HBW.out).mono ?_); rintro e wq ⟨rfl, hb⟩; have HBW := Lib.hid (HBW.out.trans (hb.mono HBW.out.size)); clear hb))
  go_wp2_with fail
  go_ret
  exact ⟨rfl, HB7.out.trans (HBW.out.mono HB7.out.size)⟩
end Go.Proofs.YtiegoffdbhmfbaaGreatDoor
