/- The walk of EvidenceItems. -/
import Derived.Test.YtoiddojmlhknlaaAwake
import Derived.Deep.RegionHeld3
import Derived.Deep.DrawnRows
namespace Go.Proofs.Ytoiddojmlhknlaa
set_option linter.unusedVariables false
open Go.RowKit Go.Maps
attribute [local go_sem ↓] Go.wp_at_zero Go.wp_at_succ

theorem cells3 {w : World} {b : Nat} {x : Itm} (h : w.heap[b]? = some (.cells #[.string x.k, .int .i64 x.n, .int .u64 x.h] 24 (0, 0))) :
    w.cell? ⟨b, 0, none⟩ = some (.string x.k) ∧ w.cell? ⟨b, 1, none⟩ = some (.int .i64 x.n) ∧ w.cell? ⟨b, 2, none⟩ = some (.int .u64 x.h) := by
  simp [World.cell?, h]
theorem keep_of {w3 w' : World} {m0 m1 m2 : Nat} {u0 u1 u2 v0 v1 v2 z0 z1 z2 : Value} (h : Below w3.heap.size w3 w') (l0 : m0 < w3.heap.size) (l1 : m1 < w3.heap.size) (l2 : m2 < w3.heap.size)
    (a0 : w3.cell? ⟨m0, 0, none⟩ = some u0) (a1 : w3.cell? ⟨m0, 1, none⟩ = some u1) (a2 : w3.cell? ⟨m0, 2, none⟩ = some u2)
    (b0 : w3.cell? ⟨m1, 0, none⟩ = some v0) (b1 : w3.cell? ⟨m1, 1, none⟩ = some v1) (b2 : w3.cell? ⟨m1, 2, none⟩ = some v2)
    (d0 : w3.cell? ⟨m2, 0, none⟩ = some z0) (d1 : w3.cell? ⟨m2, 1, none⟩ = some z1) (d2 : w3.cell? ⟨m2, 2, none⟩ = some z2) :
    Below w3.heap.size w3 w' ∧ w'.cell? ⟨m0, 0, none⟩ = some u0 ∧ w'.cell? ⟨m0, 1, none⟩ = some u1 ∧ w'.cell? ⟨m0, 2, none⟩ = some u2 ∧
      w'.cell? ⟨m1, 0, none⟩ = some v0 ∧ w'.cell? ⟨m1, 1, none⟩ = some v1 ∧ w'.cell? ⟨m1, 2, none⟩ = some v2 ∧
      w'.cell? ⟨m2, 0, none⟩ = some z0 ∧ w'.cell? ⟨m2, 1, none⟩ = some z1 ∧ w'.cell? ⟨m2, 2, none⟩ = some z2 :=
  ⟨h, (h.cell (p := ⟨m0, 0, none⟩) l0).trans a0, (h.cell (p := ⟨m0, 1, none⟩) l0).trans a1, (h.cell (p := ⟨m0, 2, none⟩) l0).trans a2,
    (h.cell (p := ⟨m1, 0, none⟩) l1).trans b0, (h.cell (p := ⟨m1, 1, none⟩) l1).trans b1, (h.cell (p := ⟨m1, 2, none⟩) l1).trans b2,
    (h.cell (p := ⟨m2, 0, none⟩) l2).trans d0, (h.cell (p := ⟨m2, 1, none⟩) l2).trans d1, (h.cell (p := ⟨m2, 2, none⟩) l2).trans d2⟩
set_option maxHeartbeats 3200000 in
theorem evidenceItems_walk (w : World) (i : Itm) (hi0 : i.k.size ≤ maxLen ∧ (Lit.int .i64 i.n).wf = true ∧ (Lit.int .u64 i.h).wf = true) (c : ByteArray) (hc : c.size ≤ maxLen) :
    Calls Try.prog 3 #[i.val, .string c] w fun e w' => e = .returned (.bool true) ∧ Below w.heap.size w w' := by
  have hi := hi0.1
  clear hi0
  have hd1 := Lib.hid (fun w => describe_any i.k c w hi hc)
  have hd2 := Lib.hid (fun w => rdescribe_any i.k c w hi hc)
  have hc1 := Lib.hid (fun w => check_any i.k i.n i.h w hi)
  have hc2 := Lib.hid (fun w => rcheck_any i.k i.n i.h w hi)
  unfold itemZ at hc1 hc2
  unfold Itm.val
  unfold maxLen at hi hc
  by_cases h1 : i.k.size ≤ 100
  case neg =>
    go_enter Try.func3, Try.ntmps3
    go_wp2_with fail
    refine (awake_any _).mono ?_
    rintro e w1 ⟨rfl, hb⟩
    go_wp2_with fail
    go_ret
    exact ⟨rfl, (Joins.below_alloc1 w _).trans (hb.mono (by simp))⟩
  by_cases h2 : c.size ≤ 5000
  case neg =>
    go_enter Try.func3, Try.ntmps3
    go_wp2_with fail
    refine (awake_any _).mono ?_
    rintro e w1 ⟨rfl, hb⟩
    go_wp2_with fail
    go_ret
    exact ⟨rfl, (Joins.below_alloc1 w _).trans (hb.mono (by simp))⟩
  have hv := Lib.hid (descV_val i.k c)
  go_enter Try.func3, Try.ntmps3
  go_wp2_with fail
  refine (hd1.out _).mono ?_
  rintro e w1 ⟨rfl, hb1⟩
  rw [hv.out]
  have HB1 : Hid (Below w.heap.size w w1) := Lib.hid ((Joins.below_alloc1 w _).trans (hb1.mono (by simp)))
  have HC1 : Hid (w1.heap[w.heap.size]? = some (.cells #[.string i.k, .int .i64 i.n, .int .u64 i.h] 24 (0, 0))) := Lib.hid (by rw [hb1.block _ (by simp)]; exact heap_alloc_new w _)
  have i0 := (cells3 HC1.out).1
  have hlt1 : w.heap.size < w1.heap.size := (Array.getElem?_eq_some_iff.1 HC1.out).1
  clear hb1
  generalize hx : descI i.k c = x
  have HX := Lib.hid hx
  clear hx
  have HY : Hid (descV i.k c = .agg #[.string x.k, .int .i64 x.n, .int .u64 x.h]) := Lib.hid (by rw [hv.out, HX.out])
  go_wp2_with fail
  refine (hd2.out _).mono ?_
  rintro e w2 ⟨rfl, hb2⟩
  rw [HY.out]
  have HB2 : Hid (Below w.heap.size w w2) := Lib.hid (HB1.out.trans (((Joins.below_alloc1 w1 _).trans (hb2.mono (by simp))).mono HB1.out.size))
  have HC2 : Hid (w2.heap[w.heap.size]? = some (.cells #[.string i.k, .int .i64 i.n, .int .u64 i.h] 24 (0, 0))) := Lib.hid (by rw [hb2.block _ (by simp; omega), Below.heap_alloc _ _ _ hlt1]; exact HC1.out)
  have HX2 : Hid (w2.heap[w1.heap.size]? = some (.cells #[.string x.k, .int .i64 x.n, .int .u64 x.h] 24 (0, 0))) := Lib.hid (by rw [hb2.block _ (by simp)]; exact heap_alloc_new w1 _)
  clear hb2 i0
  have hlt2 : w1.heap.size < w2.heap.size := (Array.getElem?_eq_some_iff.1 HX2.out).1
  go_wp2_with fail
  generalize descE i.k c = ec
  have HB3 : Hid (Below w.heap.size w (w2.alloc (.cells #[.string x.k, .int .i64 x.n, .int .u64 x.h] 24))) := Lib.hid (HB2.out.alloc HB2.out.size _)
  have hC3 : (w2.alloc (.cells #[.string x.k, .int .i64 x.n, .int .u64 x.h] 24)).heap[w.heap.size]? = some (.cells #[.string i.k, .int .i64 i.n, .int .u64 i.h] 24 (0, 0)) := by rw [Below.heap_alloc _ _ _ (by omega)]; exact HC2.out
  have hX3 : (w2.alloc (.cells #[.string x.k, .int .i64 x.n, .int .u64 x.h] 24)).heap[w1.heap.size]? = some (.cells #[.string x.k, .int .i64 x.n, .int .u64 x.h] 24 (0, 0)) := by rw [Below.heap_alloc _ _ _ (by omega)]; exact HX2.out
  have hY3 : (w2.alloc (.cells #[.string x.k, .int .i64 x.n, .int .u64 x.h] 24)).heap[w2.heap.size]? = some (.cells #[.string x.k, .int .i64 x.n, .int .u64 x.h] 24 (0, 0)) := heap_alloc_new w2 _
  have hlt3 : w2.heap.size < (w2.alloc (.cells #[.string x.k, .int .i64 x.n, .int .u64 x.h] 24)).heap.size := by simp
  generalize (w2.alloc (.cells #[.string x.k, .int .i64 x.n, .int .u64 x.h] 24)) = w3 at *
  obtain ⟨a0, a1, a2⟩ := cells3 hC3
  obtain ⟨b0, b1, b2⟩ := cells3 hX3
  obtain ⟨d0, d1, d2⟩ := cells3 hY3
  clear hC3 hX3 hY3
  have heq := eq_item x x
  rw [decide_eq_true (rfl : x = x)] at heq
  generalize hm0 : w.heap.size = m0 at *
  generalize hm1 : w1.heap.size = m1 at *
  generalize hm2 : w2.heap.size = m2 at *
  have hl0 : m0 < w3.heap.size := by omega
  have hl1 : m1 < w3.heap.size := by omega
  have hself : ((ec : Int) == ec) = true := by simp
  have hself2 : ((chkE i.k i.n : Int) == chkE i.k i.n) = true := by simp
  have HM := Lib.hid hm0
  clear hm0 hm1 hm2
  generalize chkE i.k i.n = ch at *
  go_region_held3 (fun w' => Below w3.heap.size w3 w' ∧ w'.cell? ⟨m0, 0, none⟩ = some (.string i.k) ∧ w'.cell? ⟨m0, 1, none⟩ = some (.int .i64 i.n) ∧ w'.cell? ⟨m0, 2, none⟩ = some (.int .u64 i.h) ∧ w'.cell? ⟨m1, 0, none⟩ = some (.string x.k) ∧ w'.cell? ⟨m1, 1, none⟩ = some (.int .i64 x.n) ∧ w'.cell? ⟨m1, 2, none⟩ = some (.int .u64 x.h) ∧ w'.cell? ⟨m2, 0, none⟩ = some (.string x.k) ∧ w'.cell? ⟨m2, 1, none⟩ = some (.int .i64 x.n) ∧ w'.cell? ⟨m2, 2, none⟩ = some (.int .u64 x.h))
    (first
      | exact keep_of (Below.drew (Below.refl _ _)) hl0 hl1 hlt3 a0 a1 a2 b0 b1 b2 d0 d1 d2
      | (go_split_ands; exact keep_of (below2 (by assumption) hb) hl0 hl1 hlt3 a0 a1 a2 b0 b1 b2 d0 d1 d2))
    (first
      | (go_at_call 8; refine (hc1.out _).mono ?_; rintro e w' ⟨rfl, hb⟩)
      | (go_at_call 9; refine (hc2.out _).mono ?_; rintro e w' ⟨rfl, hb⟩)
      | (go_at_call 5; refine (awake_any _).mono ?_; rintro e w' ⟨rfl, hb⟩))
  all_goals
    rename_i hh
    have HH := Lib.hid hh.1
    clear hh
    go_wp2_with fail
    go_ret
    exact ⟨rfl, by rw [HM.out]; exact HB3.out.trans (HH.out.mono (by omega))⟩
end Go.Proofs.Ytoiddojmlhknlaa
