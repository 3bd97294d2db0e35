/- The law Order (printed by gen_ord32.py). -/
import Derived.Test.YthflmdgfenojcaaDoorAwk
namespace Go.Proofs.YthflmdgfenojcaaDoor
set_option linter.unusedVariables false
open Go.RowKit Go.Sort

theorem box3 {w w1 : World} {C1 C2 C3 : Array Value} {T1 T2 T3 : TypeId} (hb : Below (((w.alloc (.cells C1 T1)).alloc (.cells C2 T2)).alloc (.cells C3 T3)).heap.size (((w.alloc (.cells C1 T1)).alloc (.cells C2 T2)).alloc (.cells C3 T3)) w1) :
    w1.heap[w.heap.size]? = some (.cells C1 T1) ∧ w1.heap[w.heap.size + 1]? = some (.cells C2 T2) ∧ w1.heap[w.heap.size + 1 + 1]? = some (.cells C3 T3) ∧ Below w.heap.size w w1 := by
  obtain ⟨k2, k3, hb2⟩ := box2 hb
  refine ⟨blk_later (heap_alloc_new w _) hb2, by simpa using k2, by simpa using k3, (bx w _).trans (hb2.mono (by simp))⟩
theorem less_all (a b c : Rec) : (lessB a b = true ∧ lessB b a = false ∧ lessB b c = false) ∨ (lessB a b = true ∧ lessB b a = false ∧ lessB b c = true ∧ lessB a c = true) ∨ (lessB a b = false ∧ lessB b a = true) ∨ (lessB a b = false ∧ lessB b a = false ∧ a.d = b.d ∧ a.aq = b.aq ∧ a.id = b.id) := by
  cases h1 : lessB a b
  · cases h2 : lessB b a
    · have := less_tri h1 h2; right; right; right; exact ⟨rfl, rfl, this⟩
    · right; right; left; exact ⟨rfl, rfl⟩
  · have h2 := less_asym h1
    cases h3 : lessB b c
    · left; exact ⟨rfl, h2, rfl⟩
    · right; left; exact ⟨rfl, h2, rfl, less_trans h1 h3⟩
set_option maxRecDepth 100000 in
set_option maxHeartbeats 25600000 in
theorem order_any (r1 r2 r3 : Rec) (w : World) (hw : KW w) : Calls Tryd.prog 5 #[r1.val, r2.val, r3.val] w fun e w' => e = .returned (.bool true) ∧ Below w.heap.size w w' := by
  obtain ⟨q1, id1, au1, aq1, iss1, me1, ca1, a1, cu1, d1, c1, f1⟩ := r1
  obtain ⟨q2, id2, au2, aq2, iss2, me2, ca2, a2, cu2, d2, c2, f2⟩ := r2
  obtain ⟨q3, id3, au3, aq3, iss3, me3, ca3, a3, cu3, d3, c3, f3⟩ := r3
  have HKW := Lib.hid hw
  have HAW := Lib.hid (fun W hW => awake_any W hW)
  have HS1 := Lib.hid (fun W => short_any ⟨q1, id1, au1, aq1, iss1, me1, ca1, a1, cu1, d1, c1, f1⟩ W)
  have HS2 := Lib.hid (fun W => short_any ⟨q2, id2, au2, aq2, iss2, me2, ca2, a2, cu2, d2, c2, f2⟩ W)
  have HS3 := Lib.hid (fun W => short_any ⟨q3, id3, au3, aq3, iss3, me3, ca3, a3, cu3, d3, c3, f3⟩ W)
  have H12 := Lib.hid (fun W => less_any ⟨q1, id1, au1, aq1, iss1, me1, ca1, a1, cu1, d1, c1, f1⟩ ⟨q2, id2, au2, aq2, iss2, me2, ca2, a2, cu2, d2, c2, f2⟩ W)
  have H21 := Lib.hid (fun W => less_any ⟨q2, id2, au2, aq2, iss2, me2, ca2, a2, cu2, d2, c2, f2⟩ ⟨q1, id1, au1, aq1, iss1, me1, ca1, a1, cu1, d1, c1, f1⟩ W)
  have H11 := Lib.hid (fun W => less_any ⟨q1, id1, au1, aq1, iss1, me1, ca1, a1, cu1, d1, c1, f1⟩ ⟨q1, id1, au1, aq1, iss1, me1, ca1, a1, cu1, d1, c1, f1⟩ W)
  have H23 := Lib.hid (fun W => less_any ⟨q2, id2, au2, aq2, iss2, me2, ca2, a2, cu2, d2, c2, f2⟩ ⟨q3, id3, au3, aq3, iss3, me3, ca3, a3, cu3, d3, c3, f3⟩ W)
  have H13 := Lib.hid (fun W => less_any ⟨q1, id1, au1, aq1, iss1, me1, ca1, a1, cu1, d1, c1, f1⟩ ⟨q3, id3, au3, aq3, iss3, me3, ca3, a3, cu3, d3, c3, f3⟩ W)
  have HR := Lib.hid (fun W => rless_any ⟨q1, id1, au1, aq1, iss1, me1, ca1, a1, cu1, d1, c1, f1⟩ ⟨q2, id2, au2, aq2, iss2, me2, ca2, a2, cu2, d2, c2, f2⟩ W)
  have HALL := Lib.hid (less_all ⟨q1, id1, au1, aq1, iss1, me1, ca1, a1, cu1, d1, c1, f1⟩ ⟨q2, id2, au2, aq2, iss2, me2, ca2, a2, cu2, d2, c2, f2⟩ ⟨q3, id3, au3, aq3, iss3, me3, ca3, a3, cu3, d3, c3, f3⟩)
  rw [less_irr] at H11
  unfold BPost at *
  generalize lessB ⟨q1, id1, au1, aq1, iss1, me1, ca1, a1, cu1, d1, c1, f1⟩ ⟨q2, id2, au2, aq2, iss2, me2, ca2, a2, cu2, d2, c2, f2⟩ = L12 at *
  generalize lessB ⟨q2, id2, au2, aq2, iss2, me2, ca2, a2, cu2, d2, c2, f2⟩ ⟨q1, id1, au1, aq1, iss1, me1, ca1, a1, cu1, d1, c1, f1⟩ = L21 at *
  generalize lessB ⟨q2, id2, au2, aq2, iss2, me2, ca2, a2, cu2, d2, c2, f2⟩ ⟨q3, id3, au3, aq3, iss3, me3, ca3, a3, cu3, d3, c3, f3⟩ = L23 at *
  generalize lessB ⟨q1, id1, au1, aq1, iss1, me1, ca1, a1, cu1, d1, c1, f1⟩ ⟨q3, id3, au3, aq3, iss3, me3, ca3, a3, cu3, d3, c3, f3⟩ = L13 at *
  generalize shortB ⟨q1, id1, au1, aq1, iss1, me1, ca1, a1, cu1, d1, c1, f1⟩ = S1 at *
  generalize shortB ⟨q2, id2, au2, aq2, iss2, me2, ca2, a2, cu2, d2, c2, f2⟩ = S2 at *
  generalize shortB ⟨q3, id3, au3, aq3, iss3, me3, ca3, a3, cu3, d3, c3, f3⟩ = S3 at *
  unfold Rec.val Rec.cells at *
  dsimp only at *
  clear hw
  cases S1 with
  | false =>
    go_enter Tryd.func5, Tryd.ntmps5
    go_wp2_with fail
    refine (HS1.out _).mono ?_
    rintro e w1 ⟨rfl, hb⟩
    obtain ⟨k1, k2, k3, hb1⟩ := box3 hb
    have HB := Lib.hid hb1
    have K1 := Lib.hid k1
    have K2 := Lib.hid k2
    have K3 := Lib.hid k3
    clear hb hb1 k1 k2 k3
    go_wp2_with fail
    refine (HAW.out _ (HKW.out.below HB.out)).mono ?_
    rintro e w9 ⟨rfl, hb⟩
    have HB := Lib.hid (HB.out.trans (hb.mono HB.out.size))
    clear hb
    go_wp2_with fail
    go_ret
    exact ⟨rfl, HB.out⟩
  | true =>
    cases S2 with
    | false =>
      go_enter Tryd.func5, Tryd.ntmps5
      go_wp2_with fail
      refine (HS1.out _).mono ?_
      rintro e w1 ⟨rfl, hb⟩
      obtain ⟨k1, k2, k3, hb1⟩ := box3 hb
      have HB := Lib.hid hb1
      have K1 := Lib.hid k1
      have K2 := Lib.hid k2
      have K3 := Lib.hid k3
      clear hb hb1 k1 k2 k3
      obtain ⟨-, r1_0, r1_1, r1_2, r1_3, r1_4, r1_5, r1_6, r1_7, r1_8, r1_9, r1_10, r1_11⟩ := row12 (Below.refl _ _) K1.out
      obtain ⟨-, r2_0, r2_1, r2_2, r2_3, r2_4, r2_5, r2_6, r2_7, r2_8, r2_9, r2_10, r2_11⟩ := row12 (Below.refl _ _) K2.out
      obtain ⟨-, r3_0, r3_1, r3_2, r3_3, r3_4, r3_5, r3_6, r3_7, r3_8, r3_9, r3_10, r3_11⟩ := row12 (Below.refl _ _) K3.out
      go_wp2_with fail
      refine (HS2.out _).mono ?_
      rintro e w2 ⟨rfl, hb⟩
      have HB := Lib.hid (HB.out.trans (hb.mono HB.out.size))
      have K1 := Lib.hid (blk_later K1.out hb)
      have K2 := Lib.hid (blk_later K2.out hb)
      have K3 := Lib.hid (blk_later K3.out hb)
      clear hb
      clear r1_0 r1_1 r1_2 r1_3 r1_4 r1_5 r1_6 r1_7 r1_8 r1_9 r1_10 r1_11 r2_0 r2_1 r2_2 r2_3 r2_4 r2_5 r2_6 r2_7 r2_8 r2_9 r2_10 r2_11 r3_0 r3_1 r3_2 r3_3 r3_4 r3_5 r3_6 r3_7 r3_8 r3_9 r3_10 r3_11
      go_wp2_with fail
      refine (HAW.out _ (HKW.out.below HB.out)).mono ?_
      rintro e w9 ⟨rfl, hb⟩
      have HB := Lib.hid (HB.out.trans (hb.mono HB.out.size))
      clear hb
      go_wp2_with fail
      go_ret
      exact ⟨rfl, HB.out⟩
    | true =>
      cases S3 with
      | false =>
        go_enter Tryd.func5, Tryd.ntmps5
        go_wp2_with fail
        refine (HS1.out _).mono ?_
        rintro e w1 ⟨rfl, hb⟩
        obtain ⟨k1, k2, k3, hb1⟩ := box3 hb
        have HB := Lib.hid hb1
        have K1 := Lib.hid k1
        have K2 := Lib.hid k2
        have K3 := Lib.hid k3
        clear hb hb1 k1 k2 k3
        obtain ⟨-, r1_0, r1_1, r1_2, r1_3, r1_4, r1_5, r1_6, r1_7, r1_8, r1_9, r1_10, r1_11⟩ := row12 (Below.refl _ _) K1.out
        obtain ⟨-, r2_0, r2_1, r2_2, r2_3, r2_4, r2_5, r2_6, r2_7, r2_8, r2_9, r2_10, r2_11⟩ := row12 (Below.refl _ _) K2.out
        obtain ⟨-, r3_0, r3_1, r3_2, r3_3, r3_4, r3_5, r3_6, r3_7, r3_8, r3_9, r3_10, r3_11⟩ := row12 (Below.refl _ _) K3.out
        go_wp2_with fail
        refine (HS2.out _).mono ?_
        rintro e w2 ⟨rfl, hb⟩
        have HB := Lib.hid (HB.out.trans (hb.mono HB.out.size))
        have K1 := Lib.hid (blk_later K1.out hb)
        have K2 := Lib.hid (blk_later K2.out hb)
        have K3 := Lib.hid (blk_later K3.out hb)
        clear hb
        clear r1_0 r1_1 r1_2 r1_3 r1_4 r1_5 r1_6 r1_7 r1_8 r1_9 r1_10 r1_11 r2_0 r2_1 r2_2 r2_3 r2_4 r2_5 r2_6 r2_7 r2_8 r2_9 r2_10 r2_11 r3_0 r3_1 r3_2 r3_3 r3_4 r3_5 r3_6 r3_7 r3_8 r3_9 r3_10 r3_11
        obtain ⟨-, r1_0, r1_1, r1_2, r1_3, r1_4, r1_5, r1_6, r1_7, r1_8, r1_9, r1_10, r1_11⟩ := row12 (Below.refl _ _) K1.out
        obtain ⟨-, r2_0, r2_1, r2_2, r2_3, r2_4, r2_5, r2_6, r2_7, r2_8, r2_9, r2_10, r2_11⟩ := row12 (Below.refl _ _) K2.out
        obtain ⟨-, r3_0, r3_1, r3_2, r3_3, r3_4, r3_5, r3_6, r3_7, r3_8, r3_9, r3_10, r3_11⟩ := row12 (Below.refl _ _) K3.out
        go_wp2_with fail
        refine (HS3.out _).mono ?_
        rintro e w3 ⟨rfl, hb⟩
        have HB := Lib.hid (HB.out.trans (hb.mono HB.out.size))
        have K1 := Lib.hid (blk_later K1.out hb)
        have K2 := Lib.hid (blk_later K2.out hb)
        have K3 := Lib.hid (blk_later K3.out hb)
        clear hb
        clear r1_0 r1_1 r1_2 r1_3 r1_4 r1_5 r1_6 r1_7 r1_8 r1_9 r1_10 r1_11 r2_0 r2_1 r2_2 r2_3 r2_4 r2_5 r2_6 r2_7 r2_8 r2_9 r2_10 r2_11 r3_0 r3_1 r3_2 r3_3 r3_4 r3_5 r3_6 r3_7 r3_8 r3_9 r3_10 r3_11
        go_wp2_with fail
        refine (HAW.out _ (HKW.out.below HB.out)).mono ?_
        rintro e w9 ⟨rfl, hb⟩
        have HB := Lib.hid (HB.out.trans (hb.mono HB.out.size))
        clear hb
        go_wp2_with fail
        go_ret
        exact ⟨rfl, HB.out⟩
      | true =>
        go_enter Tryd.func5, Tryd.ntmps5
        go_wp2_with fail
        refine (HS1.out _).mono ?_
        rintro e w1 ⟨rfl, hb⟩
        obtain ⟨k1, k2, k3, hb1⟩ := box3 hb
        have HB := Lib.hid hb1
        have K1 := Lib.hid k1
        have K2 := Lib.hid k2
        have K3 := Lib.hid k3
        clear hb hb1 k1 k2 k3
        obtain ⟨-, r1_0, r1_1, r1_2, r1_3, r1_4, r1_5, r1_6, r1_7, r1_8, r1_9, r1_10, r1_11⟩ := row12 (Below.refl _ _) K1.out
        obtain ⟨-, r2_0, r2_1, r2_2, r2_3, r2_4, r2_5, r2_6, r2_7, r2_8, r2_9, r2_10, r2_11⟩ := row12 (Below.refl _ _) K2.out
        obtain ⟨-, r3_0, r3_1, r3_2, r3_3, r3_4, r3_5, r3_6, r3_7, r3_8, r3_9, r3_10, r3_11⟩ := row12 (Below.refl _ _) K3.out
        go_wp2_with fail
        refine (HS2.out _).mono ?_
        rintro e w2 ⟨rfl, hb⟩
        have HB := Lib.hid (HB.out.trans (hb.mono HB.out.size))
        have K1 := Lib.hid (blk_later K1.out hb)
        have K2 := Lib.hid (blk_later K2.out hb)
        have K3 := Lib.hid (blk_later K3.out hb)
        clear hb
        clear r1_0 r1_1 r1_2 r1_3 r1_4 r1_5 r1_6 r1_7 r1_8 r1_9 r1_10 r1_11 r2_0 r2_1 r2_2 r2_3 r2_4 r2_5 r2_6 r2_7 r2_8 r2_9 r2_10 r2_11 r3_0 r3_1 r3_2 r3_3 r3_4 r3_5 r3_6 r3_7 r3_8 r3_9 r3_10 r3_11
        obtain ⟨-, r1_0, r1_1, r1_2, r1_3, r1_4, r1_5, r1_6, r1_7, r1_8, r1_9, r1_10, r1_11⟩ := row12 (Below.refl _ _) K1.out
        obtain ⟨-, r2_0, r2_1, r2_2, r2_3, r2_4, r2_5, r2_6, r2_7, r2_8, r2_9, r2_10, r2_11⟩ := row12 (Below.refl _ _) K2.out
        obtain ⟨-, r3_0, r3_1, r3_2, r3_3, r3_4, r3_5, r3_6, r3_7, r3_8, r3_9, r3_10, r3_11⟩ := row12 (Below.refl _ _) K3.out
        go_wp2_with fail
        refine (HS3.out _).mono ?_
        rintro e w3 ⟨rfl, hb⟩
        have HB := Lib.hid (HB.out.trans (hb.mono HB.out.size))
        have K1 := Lib.hid (blk_later K1.out hb)
        have K2 := Lib.hid (blk_later K2.out hb)
        have K3 := Lib.hid (blk_later K3.out hb)
        clear hb
        clear r1_0 r1_1 r1_2 r1_3 r1_4 r1_5 r1_6 r1_7 r1_8 r1_9 r1_10 r1_11 r2_0 r2_1 r2_2 r2_3 r2_4 r2_5 r2_6 r2_7 r2_8 r2_9 r2_10 r2_11 r3_0 r3_1 r3_2 r3_3 r3_4 r3_5 r3_6 r3_7 r3_8 r3_9 r3_10 r3_11
        go_wp2_with fail
        have HBW : Hid (Below w3.heap.size w3 w3.drew) := Lib.hid ((Below.refl _ _).drew)
        go_region_held3 (fun w' => Below w3.heap.size w3 w' ∧ (w'.cell? ⟨w.heap.size, 0, none⟩ = some (.int .i64 q1) ∧ w'.cell? ⟨w.heap.size, 1, none⟩ = some (.string id1) ∧ w'.cell? ⟨w.heap.size, 2, none⟩ = some (.string au1) ∧ w'.cell? ⟨w.heap.size, 3, none⟩ = some (.string aq1) ∧ w'.cell? ⟨w.heap.size, 4, none⟩ = some (.string iss1) ∧ w'.cell? ⟨w.heap.size, 5, none⟩ = some (.string me1) ∧ w'.cell? ⟨w.heap.size, 6, none⟩ = some (.string ca1) ∧ w'.cell? ⟨w.heap.size, 7, none⟩ = some (.int .i64 a1) ∧ w'.cell? ⟨w.heap.size, 8, none⟩ = some (.string cu1) ∧ w'.cell? ⟨w.heap.size, 9, none⟩ = some (.int .i64 d1) ∧ w'.cell? ⟨w.heap.size, 10, none⟩ = some (.int .i64 c1) ∧ w'.cell? ⟨w.heap.size, 11, none⟩ = some (.bool f1)) ∧ (w'.cell? ⟨w.heap.size + 1, 0, none⟩ = some (.int .i64 q2) ∧ w'.cell? ⟨w.heap.size + 1, 1, none⟩ = some (.string id2) ∧ w'.cell? ⟨w.heap.size + 1, 2, none⟩ = some (.string au2) ∧ w'.cell? ⟨w.heap.size + 1, 3, none⟩ = some (.string aq2) ∧ w'.cell? ⟨w.heap.size + 1, 4, none⟩ = some (.string iss2) ∧ w'.cell? ⟨w.heap.size + 1, 5, none⟩ = some (.string me2) ∧ w'.cell? ⟨w.heap.size + 1, 6, none⟩ = some (.string ca2) ∧ w'.cell? ⟨w.heap.size + 1, 7, none⟩ = some (.int .i64 a2) ∧ w'.cell? ⟨w.heap.size + 1, 8, none⟩ = some (.string cu2) ∧ w'.cell? ⟨w.heap.size + 1, 9, none⟩ = some (.int .i64 d2) ∧ w'.cell? ⟨w.heap.size + 1, 10, none⟩ = some (.int .i64 c2) ∧ w'.cell? ⟨w.heap.size + 1, 11, none⟩ = some (.bool f2)))
          (exact ⟨HBW.out, (row12 HBW.out K1.out).2, (row12 HBW.out K2.out).2⟩)
          ((go_at_call 12; (first | (with_reducible refine (H12.out _).mono ?_) | (with_reducible refine (H21.out _).mono ?_)); rintro e w' ⟨rfl, hb⟩; have HBW := Lib.hid (HBW.out.trans (hb.mono HBW.out.size)); clear hb))
        rename_i w4 _
        have HB := Lib.hid (HB.out.trans (HBW.out.mono HB.out.size))
        have K1 := Lib.hid (blk_later K1.out HBW.out)
        have K2 := Lib.hid (blk_later K2.out HBW.out)
        have K3 := Lib.hid (blk_later K3.out HBW.out)
        obtain ⟨-, r1_0, r1_1, r1_2, r1_3, r1_4, r1_5, r1_6, r1_7, r1_8, r1_9, r1_10, r1_11⟩ := row12 (Below.refl _ _) K1.out
        obtain ⟨-, r2_0, r2_1, r2_2, r2_3, r2_4, r2_5, r2_6, r2_7, r2_8, r2_9, r2_10, r2_11⟩ := row12 (Below.refl _ _) K2.out
        go_wp2_with fail
        refine (HR.out _).mono ?_
        rintro e w5 ⟨rfl, hb⟩
        have HB := Lib.hid (HB.out.trans (hb.mono HB.out.size))
        have K1 := Lib.hid (blk_later K1.out hb)
        have K2 := Lib.hid (blk_later K2.out hb)
        have K3 := Lib.hid (blk_later K3.out hb)
        clear hb
        clear r1_0 r1_1 r1_2 r1_3 r1_4 r1_5 r1_6 r1_7 r1_8 r1_9 r1_10 r1_11 r2_0 r2_1 r2_2 r2_3 r2_4 r2_5 r2_6 r2_7 r2_8 r2_9 r2_10 r2_11
        obtain ⟨-, r1_0, r1_1, r1_2, r1_3, r1_4, r1_5, r1_6, r1_7, r1_8, r1_9, r1_10, r1_11⟩ := row12 (Below.refl _ _) K1.out
        obtain ⟨-, r2_0, r2_1, r2_2, r2_3, r2_4, r2_5, r2_6, r2_7, r2_8, r2_9, r2_10, r2_11⟩ := row12 (Below.refl _ _) K2.out
        rcases HALL.out with ⟨rfl, rfl, rfl⟩ | ⟨rfl, rfl, rfl, rfl⟩ | ⟨rfl, rfl⟩ | ⟨rfl, rfl, rfl, rfl, rfl⟩
        · go_wp2_with fail
          refine (H11.out _).mono ?_
          rintro e w6 ⟨rfl, hb⟩
          have HB := Lib.hid (HB.out.trans (hb.mono HB.out.size))
          have K1 := Lib.hid (blk_later K1.out hb)
          have K2 := Lib.hid (blk_later K2.out hb)
          have K3 := Lib.hid (blk_later K3.out hb)
          clear hb
          clear r1_0 r1_1 r1_2 r1_3 r1_4 r1_5 r1_6 r1_7 r1_8 r1_9 r1_10 r1_11 r2_0 r2_1 r2_2 r2_3 r2_4 r2_5 r2_6 r2_7 r2_8 r2_9 r2_10 r2_11
          obtain ⟨-, r1_0, r1_1, r1_2, r1_3, r1_4, r1_5, r1_6, r1_7, r1_8, r1_9, r1_10, r1_11⟩ := row12 (Below.refl _ _) K1.out
          obtain ⟨-, r2_0, r2_1, r2_2, r2_3, r2_4, r2_5, r2_6, r2_7, r2_8, r2_9, r2_10, r2_11⟩ := row12 (Below.refl _ _) K2.out
          obtain ⟨-, r3_0, r3_1, r3_2, r3_3, r3_4, r3_5, r3_6, r3_7, r3_8, r3_9, r3_10, r3_11⟩ := row12 (Below.refl _ _) K3.out
          go_wp2_with fail
          refine (H23.out _).mono ?_
          rintro e w7 ⟨rfl, hb⟩
          have HB := Lib.hid (HB.out.trans (hb.mono HB.out.size))
          have K1 := Lib.hid (blk_later K1.out hb)
          have K2 := Lib.hid (blk_later K2.out hb)
          have K3 := Lib.hid (blk_later K3.out hb)
          clear hb
          clear r1_0 r1_1 r1_2 r1_3 r1_4 r1_5 r1_6 r1_7 r1_8 r1_9 r1_10 r1_11 r2_0 r2_1 r2_2 r2_3 r2_4 r2_5 r2_6 r2_7 r2_8 r2_9 r2_10 r2_11 r3_0 r3_1 r3_2 r3_3 r3_4 r3_5 r3_6 r3_7 r3_8 r3_9 r3_10 r3_11
          go_wp2_with fail
          refine (HAW.out _ (HKW.out.below HB.out)).mono ?_
          rintro e w9 ⟨rfl, hb⟩
          have HB := Lib.hid (HB.out.trans (hb.mono HB.out.size))
          clear hb
          go_wp2_with fail
          go_ret
          exact ⟨rfl, HB.out⟩
        · go_wp2_with fail
          refine (H11.out _).mono ?_
          rintro e w6 ⟨rfl, hb⟩
          have HB := Lib.hid (HB.out.trans (hb.mono HB.out.size))
          have K1 := Lib.hid (blk_later K1.out hb)
          have K2 := Lib.hid (blk_later K2.out hb)
          have K3 := Lib.hid (blk_later K3.out hb)
          clear hb
          clear r1_0 r1_1 r1_2 r1_3 r1_4 r1_5 r1_6 r1_7 r1_8 r1_9 r1_10 r1_11 r2_0 r2_1 r2_2 r2_3 r2_4 r2_5 r2_6 r2_7 r2_8 r2_9 r2_10 r2_11
          obtain ⟨-, r1_0, r1_1, r1_2, r1_3, r1_4, r1_5, r1_6, r1_7, r1_8, r1_9, r1_10, r1_11⟩ := row12 (Below.refl _ _) K1.out
          obtain ⟨-, r2_0, r2_1, r2_2, r2_3, r2_4, r2_5, r2_6, r2_7, r2_8, r2_9, r2_10, r2_11⟩ := row12 (Below.refl _ _) K2.out
          obtain ⟨-, r3_0, r3_1, r3_2, r3_3, r3_4, r3_5, r3_6, r3_7, r3_8, r3_9, r3_10, r3_11⟩ := row12 (Below.refl _ _) K3.out
          go_wp2_with fail
          refine (H23.out _).mono ?_
          rintro e w7 ⟨rfl, hb⟩
          have HB := Lib.hid (HB.out.trans (hb.mono HB.out.size))
          have K1 := Lib.hid (blk_later K1.out hb)
          have K2 := Lib.hid (blk_later K2.out hb)
          have K3 := Lib.hid (blk_later K3.out hb)
          clear hb
          clear r1_0 r1_1 r1_2 r1_3 r1_4 r1_5 r1_6 r1_7 r1_8 r1_9 r1_10 r1_11 r2_0 r2_1 r2_2 r2_3 r2_4 r2_5 r2_6 r2_7 r2_8 r2_9 r2_10 r2_11 r3_0 r3_1 r3_2 r3_3 r3_4 r3_5 r3_6 r3_7 r3_8 r3_9 r3_10 r3_11
          obtain ⟨-, r1_0, r1_1, r1_2, r1_3, r1_4, r1_5, r1_6, r1_7, r1_8, r1_9, r1_10, r1_11⟩ := row12 (Below.refl _ _) K1.out
          obtain ⟨-, r3_0, r3_1, r3_2, r3_3, r3_4, r3_5, r3_6, r3_7, r3_8, r3_9, r3_10, r3_11⟩ := row12 (Below.refl _ _) K3.out
          go_wp2_with fail
          refine (H13.out _).mono ?_
          rintro e w8 ⟨rfl, hb⟩
          have HB := Lib.hid (HB.out.trans (hb.mono HB.out.size))
          have K1 := Lib.hid (blk_later K1.out hb)
          have K2 := Lib.hid (blk_later K2.out hb)
          have K3 := Lib.hid (blk_later K3.out hb)
          clear hb
          clear r1_0 r1_1 r1_2 r1_3 r1_4 r1_5 r1_6 r1_7 r1_8 r1_9 r1_10 r1_11 r3_0 r3_1 r3_2 r3_3 r3_4 r3_5 r3_6 r3_7 r3_8 r3_9 r3_10 r3_11
          go_wp2_with fail
          refine (HAW.out _ (HKW.out.below HB.out)).mono ?_
          rintro e w9 ⟨rfl, hb⟩
          have HB := Lib.hid (HB.out.trans (hb.mono HB.out.size))
          clear hb
          go_wp2_with fail
          go_ret
          exact ⟨rfl, HB.out⟩
        · go_wp2_with fail
          refine (H11.out _).mono ?_
          rintro e w6 ⟨rfl, hb⟩
          have HB := Lib.hid (HB.out.trans (hb.mono HB.out.size))
          have K1 := Lib.hid (blk_later K1.out hb)
          have K2 := Lib.hid (blk_later K2.out hb)
          have K3 := Lib.hid (blk_later K3.out hb)
          clear hb
          clear r1_0 r1_1 r1_2 r1_3 r1_4 r1_5 r1_6 r1_7 r1_8 r1_9 r1_10 r1_11 r2_0 r2_1 r2_2 r2_3 r2_4 r2_5 r2_6 r2_7 r2_8 r2_9 r2_10 r2_11
          obtain ⟨-, r1_0, r1_1, r1_2, r1_3, r1_4, r1_5, r1_6, r1_7, r1_8, r1_9, r1_10, r1_11⟩ := row12 (Below.refl _ _) K1.out
          obtain ⟨-, r2_0, r2_1, r2_2, r2_3, r2_4, r2_5, r2_6, r2_7, r2_8, r2_9, r2_10, r2_11⟩ := row12 (Below.refl _ _) K2.out
          obtain ⟨-, r3_0, r3_1, r3_2, r3_3, r3_4, r3_5, r3_6, r3_7, r3_8, r3_9, r3_10, r3_11⟩ := row12 (Below.refl _ _) K3.out
          go_wp2_with fail
          clear r1_0 r1_1 r1_2 r1_3 r1_4 r1_5 r1_6 r1_7 r1_8 r1_9 r1_10 r1_11 r2_0 r2_1 r2_2 r2_3 r2_4 r2_5 r2_6 r2_7 r2_8 r2_9 r2_10 r2_11 r3_0 r3_1 r3_2 r3_3 r3_4 r3_5 r3_6 r3_7 r3_8 r3_9 r3_10 r3_11
          refine (HAW.out _ (HKW.out.below HB.out)).mono ?_
          rintro e w9 ⟨rfl, hb⟩
          have HB := Lib.hid (HB.out.trans (hb.mono HB.out.size))
          clear hb
          go_wp2_with fail
          go_ret
          exact ⟨rfl, HB.out⟩
        · go_wp2_with fail
          refine (H11.out _).mono ?_
          rintro e w6 ⟨rfl, hb⟩
          have HB := Lib.hid (HB.out.trans (hb.mono HB.out.size))
          have K1 := Lib.hid (blk_later K1.out hb)
          have K2 := Lib.hid (blk_later K2.out hb)
          have K3 := Lib.hid (blk_later K3.out hb)
          clear hb
          clear r1_0 r1_1 r1_2 r1_3 r1_4 r1_5 r1_6 r1_7 r1_8 r1_9 r1_10 r1_11 r2_0 r2_1 r2_2 r2_3 r2_4 r2_5 r2_6 r2_7 r2_8 r2_9 r2_10 r2_11
          obtain ⟨-, r1_0, r1_1, r1_2, r1_3, r1_4, r1_5, r1_6, r1_7, r1_8, r1_9, r1_10, r1_11⟩ := row12 (Below.refl _ _) K1.out
          obtain ⟨-, r2_0, r2_1, r2_2, r2_3, r2_4, r2_5, r2_6, r2_7, r2_8, r2_9, r2_10, r2_11⟩ := row12 (Below.refl _ _) K2.out
          obtain ⟨-, r3_0, r3_1, r3_2, r3_3, r3_4, r3_5, r3_6, r3_7, r3_8, r3_9, r3_10, r3_11⟩ := row12 (Below.refl _ _) K3.out
          go_wp2_with fail
          clear r1_0 r1_1 r1_2 r1_3 r1_4 r1_5 r1_6 r1_7 r1_8 r1_9 r1_10 r1_11 r2_0 r2_1 r2_2 r2_3 r2_4 r2_5 r2_6 r2_7 r2_8 r2_9 r2_10 r2_11 r3_0 r3_1 r3_2 r3_3 r3_4 r3_5 r3_6 r3_7 r3_8 r3_9 r3_10 r3_11
          refine (HAW.out _ (HKW.out.below HB.out)).mono ?_
          rintro e w9 ⟨rfl, hb⟩
          have HB := Lib.hid (HB.out.trans (hb.mono HB.out.size))
          clear hb
          go_wp2_with fail
          go_ret
          exact ⟨rfl, HB.out⟩
end Go.Proofs.YthflmdgfenojcaaDoor
