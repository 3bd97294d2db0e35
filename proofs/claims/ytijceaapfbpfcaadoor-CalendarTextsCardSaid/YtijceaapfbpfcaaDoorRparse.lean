/- The walk of the reference's Parse. -/
import Derived.Test.YtijceaapfbpfcaaDoorParse
import Derived.Deep.QuietTactic
import Derived.BigQuiet
import Derived.RegionTactic
import Derived.Deep.RegionHeld3
namespace Go.Proofs.YtijceaapfbpfcaaDoor
set_option linter.unusedVariables false
open Go.RowKit


theorem keep3 {w3 w' : World} {m0 : Nat} {u0 u1 u2 : Value} (h : Below w3.heap.size w3 w') (l0 : m0 < w3.heap.size)
    (a0 : w3.cell? ⟨m0, 0, none⟩ = some u0) (a1 : w3.cell? ⟨m0, 1, none⟩ = some u1) (a2 : w3.cell? ⟨m0, 2, none⟩ = some u2) :
    Below w3.heap.size w3 w' ∧ w'.cell? ⟨m0, 0, none⟩ = some u0 ∧ w'.cell? ⟨m0, 1, none⟩ = some u1 ∧ w'.cell? ⟨m0, 2, none⟩ = some u2 :=
  ⟨h, (h.cell (p := ⟨m0, 0, none⟩) l0).trans a0, (h.cell (p := ⟨m0, 1, none⟩) l0).trans a1, (h.cell (p := ⟨m0, 2, none⟩) l0).trans a2⟩
set_option maxHeartbeats 3200000 in
theorem rparse_any (s : ByteArray) (w : World) (hs : s.size ≤ 1000) :
    Calls Tryd.prog 30 #[.string s] w fun e w' => e = .returned (parV s) ∧ Below w.heap.size w w' := by
  rcases Nat.lt_trichotomy s.size 10 with h | h | h
  · have hv := Lib.hid (parV_short s h)
    go_enter Tryd.func30, Tryd.ntmps30
    go_wp2_with fail
    go_ret2
    exact ⟨by rw [hv.out]; rfl, Below.refl _ _⟩
  case inr.inr =>
    have hv := Lib.hid (parV_long s h)
    go_enter Tryd.func30, Tryd.ntmps30
    go_wp2_with fail
    go_ret2
    exact ⟨by rw [hv.out]; rfl, Below.refl _ _⟩
  have hbad := Lib.hid (parV_bad s h)
  have hok := Lib.hid (parV_ok s h)
  obtain ⟨c0, c1, c2, c3, c4, c5, c6, c7, c8, c9, ⟨g0, g1, g2, g3, g4, g5, g6, g7, g8, g9⟩, hch⟩ := par_bytes s h
  have HCH := Lib.hid hch
  have b0 := c0.toNat_lt
  have b1 := c1.toNat_lt
  have b2 := c2.toNat_lt
  have b3 := c3.toNat_lt
  have b5 := c5.toNat_lt
  have b6 := c6.toNat_lt
  have b8 := c8.toNat_lt
  have b9 := c9.toNat_lt
  clear hch
  go_enter Tryd.func30, Tryd.ntmps30
  go_wp2_with fail
  refine wp_loop_rounds 11 ?_
  repeat any_goals (first
    | (rw [rounds_succ]; go_wp2_with fail)
    | (go_ret2; exact ⟨by rw [hbad.out (by intro hp; unfold parOK isD at hp; have hq := HCH.out; first | omega | (rename_i hx; simp only [bne_iff_ne, ne_eq] at hx; omega))]; rfl, by go_grown⟩)
    | (go_region; go_wp2_with fail))
  have x4 : ((c4.toNat : Int) != 45) = false := by assumption
  have x7 : ((c7.toNat : Int) != 45) = false := by assumption
  have y4 : (c4.toNat : Int) = 45 := by simpa using x4
  have y7 : (c7.toNat : Int) = 45 := by simpa using x7
  have hgood := Lib.hid (hok.out (by have hq := HCH.out; unfold parOK isD; omega))
  have hnum : Hid (((((c0.toNat : Int) - 48) * 10 + (c1.toNat - 48)) * 10 + (c2.toNat - 48)) * 10 + (c3.toNat - 48) = parY s ∧ ((c5.toNat : Int) - 48) * 10 + (c6.toNat - 48) = parM s ∧ ((c8.toNat : Int) - 48) * 10 + (c9.toNat - 48) = parD s) := by
    have hq := HCH.out
    unfold parY parM parD n4 n2
    rw [hq.1, hq.2.1, hq.2.2.1, hq.2.2.2.1, hq.2.2.2.2.2.1, hq.2.2.2.2.2.2.1, hq.2.2.2.2.2.2.2.2.1, hq.2.2.2.2.2.2.2.2.2]
    exact Lib.hid ⟨by omega, by omega, by omega⟩
  clear y4 y7 x4 x7
  generalize ((((c0.toNat : Int) - 48) * 10 + (c1.toNat - 48)) * 10 + (c2.toNat - 48)) * 10 + (c3.toNat - 48) = Y at *
  generalize ((c5.toNat : Int) - 48) * 10 + (c6.toNat - 48) = M at *
  generalize ((c8.toNat : Int) - 48) * 10 + (c9.toNat - 48) = D at *
  have e0 : (w.alloc (Obj.cells #[.int .i64 Y, .int .i64 M, .int .i64 D] 3)).drew.drew.drew.drew.drew.drew.drew.drew.cell? ⟨w.heap.size, 0, none⟩ = some (.int .i64 Y) := by simp
  have e1 : (w.alloc (Obj.cells #[.int .i64 Y, .int .i64 M, .int .i64 D] 3)).drew.drew.drew.drew.drew.drew.drew.drew.cell? ⟨w.heap.size, 1, none⟩ = some (.int .i64 M) := by simp
  have e2 : (w.alloc (Obj.cells #[.int .i64 Y, .int .i64 M, .int .i64 D] 3)).drew.drew.drew.drew.drew.drew.drew.drew.cell? ⟨w.heap.size, 2, none⟩ = some (.int .i64 D) := by simp
  have HB : Hid (Below w.heap.size w (w.alloc (Obj.cells #[.int .i64 Y, .int .i64 M, .int .i64 D] 3)).drew.drew.drew.drew.drew.drew.drew.drew) := Lib.hid (by go_grown)
  generalize (w.alloc (Obj.cells #[.int .i64 Y, .int .i64 M, .int .i64 D] 3)).drew.drew.drew.drew.drew.drew.drew.drew = W at *
  have hlt : w.heap.size < W.heap.size := World.block_lt_of_cell? W _ e0
  go_region_held3 (fun w' => Below W.heap.size W w' ∧ w'.cell? ⟨w.heap.size, 0, none⟩ = some (.int .i64 Y) ∧ w'.cell? ⟨w.heap.size, 1, none⟩ = some (.int .i64 M) ∧ w'.cell? ⟨w.heap.size, 2, none⟩ = some (.int .i64 D))
    (first
      | exact keep3 (Below.drew (Below.refl _ _)) hlt e0 e1 e2
      | (go_split_ands; exact keep3 (below2 (by assumption) hb) hlt e0 e1 e2))
    ((go_at_call 10; refine (rof_any _ _ _ _).mono ?_; rintro e w' ⟨rfl, hb⟩))
  all_goals
    rename_i hh
    have HB2 := Lib.hid hh.1
    clear hh
    go_wp2_with fail
    go_ret2
    exact ⟨by rw [hgood.out, ← hnum.out.1, ← hnum.out.2.1, ← hnum.out.2.2]; rfl, HB.out.trans (HB2.out.mono HB.out.size)⟩
end Go.Proofs.YtijceaapfbpfcaaDoor
