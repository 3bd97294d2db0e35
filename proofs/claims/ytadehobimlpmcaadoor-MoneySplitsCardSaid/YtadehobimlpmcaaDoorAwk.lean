/- The walk of awake: the chapter's examples. -/
import Derived.Test.YtadehobimlpmcaaDoorScl2
import Derived.Test.YtadehobimlpmcaaDoorFmt
import Derived.Test.YtadehobimlpmcaaDoorSam
import Derived.Deep.RegionHeld3
namespace Go.Proofs.YtadehobimlpmcaaDoor
set_option linter.unusedVariables false
open Go.RowKit

/-- The tables stand in their variables. -/
def KW (w : World) : Prop := DecW w ∧ TabW w
theorem KW.below {w w' : World} (h : KW w) (hb : Below w.heap.size w w') : KW w' := ⟨h.1.below hb, h.2.below hb⟩
def exW : List Int := [1, 1, 1]
def exF : Nat → Int := amtF 100 100 3 [1, 1, 1]
theorem ex_F : exF 0 = 34 ∧ exF 1 = 33 ∧ exF 2 = 33 := by unfold exF amtF; decide +kernel
def bhdS : ByteArray := ⟨#[66, 72, 68]⟩
def eurS : ByteArray := ⟨#[69, 85, 82]⟩
def tx1 : ByteArray := ⟨#[45, 49, 50, 46, 51, 52, 32, 85, 83, 68]⟩
def tx2 : ByteArray := ⟨#[45, 48, 46, 48, 48, 32, 85, 83, 68]⟩
def tx3 : ByteArray := ⟨#[48, 46, 48, 48, 53, 32, 66, 72, 68]⟩
theorem scale_any (a : Int) (cur : ByteArray) (num den mode : Int) (w : World) (hs : cur.size ≤ maxLen) :
    Calls Tryd.prog 10 #[.agg #[.int .i64 a, .string cur], .int .i64 num, .int .i64 den, .int .i64 mode] w (SclPost a cur num den mode w) := by
  by_cases h : monE a cur = 0
  · cases hp : parB num den mode
    · exact scale_bad a cur num den mode w hs (.inr hp)
    · exact scale_ok a cur num den mode w hs h hp
  · exact scale_bad a cur num den mode w hs (.inl h)
theorem ex_s1 : sclE 1001 usdS 1 2 3 = 0 ∧ sclN 1001 1 2 3 = 501 := by decide +kernel
theorem ex_s2 : sclE 1001 usdS 1 2 4 = 0 ∧ sclN 1001 1 2 4 = 500 := by decide +kernel
theorem ex_s3 : sclE (-1001) usdS 1 2 1 = 0 ∧ sclN (-1001) 1 2 1 = -500 := by decide +kernel
theorem ex_p1 : parR tx1.data.toList = (-1234, [85, 83, 68], 0) := by decide +kernel
theorem ex_p2 : parR tx2.data.toList = (0, [], 2) := by decide +kernel
theorem ex_add : pairE 1 usdS 0 eurS = 11 := by decide +kernel
theorem ex_fmt : fmtS 5 bhdS = tx3 := by
  have h1 : monE 5 bhdS = 0 := by decide +kernel
  have h2 : expN [66, 72, 68] = 3 := by decide +kernel
  unfold fmtS
  rw [if_pos h1]
  show ByteArray.mk (fmtL 5 [66, 72, 68]).toArray = tx3
  unfold fmtL bodyD padD
  rw [h2, show (5 : Int).natAbs = 5 from rfl, Lib.nDigits_small (by omega), Lib.decDigits_one (by omega)]
  rfl
theorem scl_v {a : Int} {cur : ByteArray} {num den mode : Int} (h : sclE a cur num den mode = 0) {n : Int} (hn : sclN a num den mode = n) : sclV a cur num den mode = monV n cur := by unfold sclV; rw [if_pos h, hn]
theorem eq_same (a : Int) (s : ByteArray) (w : World) : (binOp .eql 23 (.agg #[.int .i64 a, .string s]) (.agg #[.int .i64 a, .string s])).run Tryd.prog w = .ok (.bool true) w := by
  rw [eq_mon]; simp
theorem keepA {W w' : World} {b1 b3 b5 b9 : Nat} {C1 C3 C5 C9 : Array Value} {T : TypeId} (h : Below W.heap.size W w') (k1 : W.heap[b1]? = some (.cells C1 T)) (k3 : W.heap[b3]? = some (.cells C3 T)) (k5 : W.heap[b5]? = some (.cells C5 T)) (k9 : W.heap[b9]? = some (.cells C9 T)) :
    Below W.heap.size W w' ∧ w'.cell? ⟨b1, 0, none⟩ = C1[0]? ∧ w'.cell? ⟨b1, 1, none⟩ = C1[1]? ∧ w'.cell? ⟨b3, 0, none⟩ = C3[0]? ∧ w'.cell? ⟨b3, 1, none⟩ = C3[1]? ∧ w'.cell? ⟨b5, 0, none⟩ = C5[0]? ∧ w'.cell? ⟨b5, 1, none⟩ = C5[1]? ∧ w'.cell? ⟨b9, 0, none⟩ = C9[0]? ∧ w'.cell? ⟨b9, 1, none⟩ = C9[1]? :=
  ⟨h, cell_c (blk_later k1 h) 0, cell_c (blk_later k1 h) 1, cell_c (blk_later k3 h) 0, cell_c (blk_later k3 h) 1, cell_c (blk_later k5 h) 0, cell_c (blk_later k5 h) 1, cell_c (blk_later k9 h) 0, cell_c (blk_later k9 h) 1⟩
theorem rowM3 (w : World) : RowM (w.alloc (.cells #[.int .i64 34, .string usdS, .int .i64 33, .string usdS, .int .i64 33, .string usdS] 23)) (some ⟨w.heap.size, 0, none⟩) 3 exF usdS := by
  have h : ∀ j v, (#[Value.int .i64 34, .string usdS, .int .i64 33, .string usdS, .int .i64 33, .string usdS] : Array Value)[j]? = some v → (w.alloc (.cells #[.int .i64 34, .string usdS, .int .i64 33, .string usdS, .int .i64 33, .string usdS] 23)).cell? ⟨w.heap.size, 0 + j, none⟩ = some v := fun j v hj => by
    have := World.news_of_block (heap_alloc_new w (.cells #[.int .i64 34, .string usdS, .int .i64 33, .string usdS, .int .i64 33, .string usdS] 23)) j v (by rw [Array.getElem?_toList]; exact hj)
    rwa [Addr.add_lit] at this
  refine .inr ⟨w.heap.size, 0, rfl, fun k hk => ?_⟩
  have hk3 : k = 0 ∨ k = 1 ∨ k = 2 := by omega
  rcases hk3 with rfl | rfl | rfl
  · rw [ex_F.1]; exact ⟨h 0 _ rfl, h 1 _ rfl⟩
  · rw [ex_F.2.1]; exact ⟨h 2 _ rfl, h 3 _ rfl⟩
  · rw [ex_F.2.2]; exact ⟨h 4 _ rfl, h 5 _ rfl⟩
set_option maxRecDepth 100000 in
set_option maxHeartbeats 12800000 in
theorem awake_any (w : World) (hw : KW w) : Calls Tryd.prog 12 #[] w fun e w' => e = .returned (.bool true) ∧ Below w.heap.size w w' := by
  have HU := Lib.hid (fun n W => usd_any n W)
  have hS1 := fun W => scale_any 1001 usdS 1 2 3 W (by decide)
  have hS2 := fun W => scale_any 1001 usdS 1 2 4 W (by decide)
  have hS3 := fun W => scale_any (-1001) usdS 1 2 1 W (by decide)
  unfold SclPost at hS1 hS2 hS3
  rw [scl_v ex_s1.1 ex_s1.2, ex_s1.1] at hS1
  rw [scl_v ex_s2.1 ex_s2.2, ex_s2.1] at hS2
  rw [scl_v ex_s3.1 ex_s3.2, ex_s3.1] at hS3
  unfold monV at hS1 hS2 hS3
  have HS1 := Lib.hid hS1
  have HS2 := Lib.hid hS2
  have HS3 := Lib.hid hS3
  have HSP := Lib.hid (fun A c W (hr : IsRow W A (cellsI exW)) => split_ok 100 usdS A c exW W hr (by decide) (by decide +kernel) (by decide +kernel) (by decide +kernel) (sortOK_small (by decide)))
  have hP1 := fun W hW => par_any tx1 W hW (by decide)
  have hP2 := fun W hW => par_any tx2 W hW (by decide)
  unfold ParPost parV at hP1 hP2
  rw [ex_p1] at hP1
  rw [ex_p2] at hP2
  have HP1 := Lib.hid hP1
  have HP2 := Lib.hid hP2
  have hAD := fun W => add_any 1 usdS 0 eurS W (by decide) (by decide)
  unfold CombPost at hAD
  rw [ex_add, (comb_bad (n := 1 + 0) (s := usdS) (by decide)).1, (comb_bad (n := 1 + 0) (s := usdS) (by decide)).2] at hAD
  unfold zeroM at hAD
  have HAD := Lib.hid hAD
  have hFM := fun W (h : KW W) => fmt_any 5 bhdS W h.1 h.2 (by decide)
  unfold FmtPost at hFM
  rw [ex_fmt] at hFM
  have HFM := Lib.hid hFM
  have HW := Lib.hid hw
  clear hS1 hS2 hS3 hP1 hP2 hAD hFM hw
  go_enter Tryd.func12, Tryd.ntmps12
  go_wp2_with fail
  refine (HU.out 1001 _).mono ?_
  rintro e w1 ⟨rfl, hb⟩
  have B1 := Lib.hid hb
  clear hb
  go_wp2_with fail
  refine (HS1.out _).mono ?_
  rintro e w2 ⟨rfl, hb⟩
  have B2 := Lib.hid (B1.out.trans (hb.mono B1.out.size))
  clear hb
  go_wp2_with fail
  refine (HU.out 1001 _).mono ?_
  rintro e w3 ⟨rfl, hb⟩
  obtain ⟨k, z1, hb1⟩ := box1 hb
  have K1 := Lib.hid k
  have B3 := Lib.hid (B2.out.trans (hb1.mono B2.out.size))
  clear hb hb1 k
  go_wp2_with fail
  refine (HS2.out _).mono ?_
  rintro e w4 ⟨rfl, hb⟩
  have K1 := Lib.hid (blk_later K1.out hb)
  have B4 := Lib.hid (B3.out.trans (hb.mono B3.out.size))
  clear hb
  go_wp2_with fail
  refine (HU.out (-1001) _).mono ?_
  rintro e w5 ⟨rfl, hb⟩
  obtain ⟨k, z3, hb1⟩ := box1 hb
  have K3 := Lib.hid k
  have K1 := Lib.hid (blk_later K1.out hb1)
  have B5 := Lib.hid (B4.out.trans (hb1.mono B4.out.size))
  clear hb hb1 k
  go_wp2_with fail
  refine (HS3.out _).mono ?_
  rintro e w6 ⟨rfl, hb⟩
  have K1 := Lib.hid (blk_later K1.out hb)
  have K3 := Lib.hid (blk_later K3.out hb)
  have B6 := Lib.hid (B5.out.trans (hb.mono B5.out.size))
  clear hb
  go_wp2_with fail
  refine (HU.out 100 _).mono ?_
  rintro e w7 ⟨rfl, hb⟩
  obtain ⟨k, z5, hb1⟩ := box1 hb
  have K5 := Lib.hid k
  have K1 := Lib.hid (blk_later K1.out hb1)
  have K3 := Lib.hid (blk_later K3.out hb1)
  have B7 := Lib.hid (B6.out.trans (hb1.mono B6.out.size))
  clear hb hb1 k
  go_wp2_with fail
  have hrow : IsRow (w7.alloc (.cells #[.int .i64 1, .int .i64 1, .int .i64 1] 2)) (some ⟨w7.heap.size, 0, none⟩) (cellsI exW) := by
    refine .inr ⟨w7.heap.size, 0, rfl, fun j v hj => ?_⟩
    have := World.news_of_block (heap_alloc_new w7 (.cells #[.int .i64 1, .int .i64 1, .int .i64 1] 2)) j v hj
    rwa [Addr.add_lit] at this
  have HC := Lib.hid (HSP.out (some ⟨w7.heap.size, 0, none⟩) 3 _ hrow)
  clear hrow
  refine HC.out.mono ?_
  rintro e w8 ⟨L, rfl, hrl, hL, hb⟩
  obtain ⟨k, z7, hb1⟩ := box1 hb
  have s0 := hrl.cell (i := 0) (by decide)
  have s1 := hrl.cell (i := 1) (by decide)
  have s2 := hrl.cell (i := 2) (by decide)
  have s3 := hrl.cell (i := 3) (by decide)
  have s4 := hrl.cell (i := 4) (by decide)
  have s5 := hrl.cell (i := 5) (by decide)
  have HROW : Hid (RowM w8 (some ⟨L, 0, none⟩) 3 exF usdS) := by
    refine .inr ⟨L, 0, rfl, fun k hk => ?_⟩
    have hk3 : k = 0 ∨ k = 1 ∨ k = 2 := by omega
    rcases hk3 with rfl | rfl | rfl
    · exact ⟨s0, s1⟩
    · exact ⟨s2, s3⟩
    · exact ⟨s4, s5⟩
  have K5 := Lib.hid (blk_later K5.out hb1)
  have K1 := Lib.hid (blk_later K1.out hb1)
  have K3 := Lib.hid (blk_later K3.out hb1)
  have B8 := Lib.hid (B7.out.trans (hb1.mono B7.out.size))
  clear hb hb1 k s0 s1 s2 s3 s4 s5 hrl HC
  have hx3 : ((exW.length : Nat) : Int) = 3 := rfl
  have hx3' : exW.length = 3 := rfl
  rw [hx3']
  clear hx3 hx3'
  unfold tx1 tx2 at *
  go_wp2_with fail
  refine (HP1.out _ (HW.out.below B8.out).1).mono ?_
  rintro e w9 ⟨rfl, hb⟩
  have K5 := Lib.hid (blk_later K5.out hb)
  have K1 := Lib.hid (blk_later K1.out hb)
  have K3 := Lib.hid (blk_later K3.out hb)
  have HROW := Lib.hid (HROW.out.below hb)
  have B9 := Lib.hid (B8.out.trans (hb.mono B8.out.size))
  clear hb
  go_wp2_with fail
  refine (HU.out 1 _).mono ?_
  rintro e w10 ⟨rfl, hb⟩
  obtain ⟨k, z9, hb1⟩ := box1 hb
  have K9 := Lib.hid k
  have K5 := Lib.hid (blk_later K5.out hb1)
  have K1 := Lib.hid (blk_later K1.out hb1)
  have K3 := Lib.hid (blk_later K3.out hb1)
  have HROW := Lib.hid (HROW.out.below hb1)
  have B10 := Lib.hid (B9.out.trans (hb1.mono B9.out.size))
  clear hb hb1 k
  unfold eurS at HAD
  go_wp2_with fail
  refine (HAD.out _).mono ?_
  rintro e w11 ⟨rfl, hb⟩
  have K9 := Lib.hid (blk_later K9.out hb)
  have K5 := Lib.hid (blk_later K5.out hb)
  have K1 := Lib.hid (blk_later K1.out hb)
  have K3 := Lib.hid (blk_later K3.out hb)
  have HROW := Lib.hid (HROW.out.below hb)
  have B11 := Lib.hid (B10.out.trans (hb.mono B10.out.size))
  clear hb
  go_wp2_with fail
  refine (HP2.out _ (HW.out.below (B11.out.alloc B11.out.size _)).1).mono ?_
  rintro e w12 ⟨rfl, hb⟩
  obtain ⟨k, z11, hb1⟩ := box1 hb
  have K9 := Lib.hid (blk_later K9.out hb1)
  have K5 := Lib.hid (blk_later K5.out hb1)
  have K1 := Lib.hid (blk_later K1.out hb1)
  have K3 := Lib.hid (blk_later K3.out hb1)
  have HROW := Lib.hid (HROW.out.below hb1)
  have B12 := Lib.hid (B11.out.trans (hb1.mono B11.out.size))
  clear hb hb1 k
  go_wp2_with fail
  have hbe : Below w12.heap.size w12 (w12.alloc (.cells #[.int .i64 0, .string ⟨#[]⟩] 23)) := (Below.refl _ _).alloc (Nat.le_refl _) _
  have K9 := Lib.hid (blk_later K9.out hbe)
  have K5 := Lib.hid (blk_later K5.out hbe)
  have K1 := Lib.hid (blk_later K1.out hbe)
  have K3 := Lib.hid (blk_later K3.out hbe)
  have HROW := Lib.hid (HROW.out.below hbe)
  have B13 := Lib.hid (B12.out.alloc B12.out.size (.cells #[.int .i64 0, .string ⟨#[]⟩] 23))
  clear hbe
  generalize w12.alloc (.cells #[.int .i64 0, .string ⟨#[]⟩] 23) = W at *
  have HBW : Hid (Below W.heap.size W W.drew) := Lib.hid ((Below.refl _ _).drew)
  have q1 := fun W => eq_same 501 usdS W
  have q2 := fun W => eq_same 500 usdS W
  have q3 := fun W => eq_same (-500) usdS W
  have q4 : ∀ W, (binOp .eql 23 (.agg #[.int .i64 (-1234), .string ⟨#[85, 83, 68]⟩]) (.agg #[.int .i64 (-1234), .string usdS])).run Tryd.prog W = .ok (.bool true) W := fun W => eq_same (-1234) usdS W
  unfold bhdS tx3 at HFM
  go_region_held3 (fun w' => Below W.heap.size W w' ∧ w'.cell? ⟨w2.heap.size, 0, none⟩ = some (.int .i64 501) ∧ w'.cell? ⟨w2.heap.size, 1, none⟩ = some (.string usdS) ∧ w'.cell? ⟨w4.heap.size, 0, none⟩ = some (.int .i64 500) ∧ w'.cell? ⟨w4.heap.size, 1, none⟩ = some (.string usdS) ∧ w'.cell? ⟨w6.heap.size, 0, none⟩ = some (.int .i64 (-500)) ∧ w'.cell? ⟨w6.heap.size, 1, none⟩ = some (.string usdS) ∧ w'.cell? ⟨w9.heap.size, 0, none⟩ = some (.int .i64 (-1234)) ∧ w'.cell? ⟨w9.heap.size, 1, none⟩ = some (.string ⟨#[85, 83, 68]⟩))
    (first
      | exact keepA HBW.out K1.out K3.out K5.out K9.out
      | exact keepA (HBW.out.alloc HBW.out.size _) K1.out K3.out K5.out K9.out)
    (first
      | (go_at_call 16; refine (HU.out _ _).mono ?_; rintro e w' ⟨rfl, hb⟩; have HBW := Lib.hid (HBW.out.trans (hb.mono HBW.out.size)); clear hb)
      | (go_at_call 15; refine (same_any (some ⟨L, 0, none⟩) 3 _ 3 3 exF usdS _ (HROW.out.below (HBW.out.alloc HBW.out.size _)) (rowM3 _) (by omega)).mono ?_; rintro e w' ⟨rfl, hb⟩; have HBW := Lib.hid ((HBW.out.alloc HBW.out.size _).trans (hb.mono (HBW.out.alloc HBW.out.size _).size)); clear hb)
      | (go_at_call 17; refine (HFM.out _ (HW.out.below (B13.out.trans (HBW.out.mono B13.out.size)))).mono ?_; rintro e w' ⟨rfl, hb⟩; have HBW := Lib.hid (HBW.out.trans (hb.mono HBW.out.size)); clear hb))
  all_goals
    go_wp2_with fail
    go_ret
    exact ⟨rfl, B13.out.trans (HBW.out.mono B13.out.size)⟩
end Go.Proofs.YtadehobimlpmcaaDoor
