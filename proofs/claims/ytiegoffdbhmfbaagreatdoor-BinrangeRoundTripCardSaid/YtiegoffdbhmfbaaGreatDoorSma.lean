/- Ranges: the law's small. -/
import Derived.Test.YtiegoffdbhmfbaaGreatDoorFin
namespace Go.Proofs.YtiegoffdbhmfbaaGreatDoor
set_option linter.unusedVariables false
open Go.RowKit

def SmPost (l : List Rg) (w : World) (e : Ending) (w' : World) : Prop := ∃ b : Bool, e = .returned (.bool b) ∧ (b = true → l.length ≤ 80) ∧ Below w.heap.size w w'
set_option maxRecDepth 100000 in
set_option maxHeartbeats 3200000 in
theorem small_any (A : Option Addr) (cp : Nat) (l : List Rg) (w : World) (hr : IsRow w A (l.flatMap rgF)) (hc : l.length ≤ cp) (hm : cp ≤ maxLen) : Calls Tryz.prog 5 #[.slice A l.length cp] w (SmPost l w) := by
  have HR := Lib.hid hr
  unfold maxLen at hm
  clear hr
  go_enter Tryz.func5, Tryz.ntmps5
  go_wp2_with fail
  go_loopw [3] (fun i wr => ∃ k : Nat, k ≤ l.length ∧ i = .int .i64 k ∧ Hid (Below w.heap.size w wr)) (fun i _ => l.length - (intOf i).toNat)
  case atStart => exact ⟨0, Nat.zero_le _, rfl, Lib.hid (Below.refl _ _)⟩
  case round =>
    obtain ⟨k, hk, rfl, HB⟩ := hrel
    by_cases hlt : k < l.length
    · rcases row_rg HR.out k hlt with ⟨b, off, rfl, hcell⟩
      obtain ⟨d0, d1, d2, d3⟩ := hcell k hlt
      have c0 := cell_later HB.out d0
      have c1 := cell_later HB.out d1
      have c2 := cell_later HB.out d2
      have c3 := cell_later HB.out d3
      have kI : (k : Int) < (l.length : Int) := by omega
      have k0 : (0 : Int) ≤ (k : Int) := by omega
      have hbl : b < wr.heap.size := World.block_lt_of_cell? wr _ c0
      clear d0 d1 d2 d3 hcell
      generalize rgAt l k = r at c0 c1 c2 c3
      obtain ⟨lo, hi, is, pr⟩ := r
      simp only at c0 c1 c2 c3
      obtain ⟨S1, e1⟩ : ∃ S1, IntKind.i64.wrap ((lo.size : Int) + (hi.size : Int)) = S1 := ⟨_, rfl⟩
      obtain ⟨S2, e2⟩ : ∃ S2, IntKind.i64.wrap (S1 + (is.size : Int)) = S2 := ⟨_, rfl⟩
      obtain ⟨S3, e3⟩ : ∃ S3, IntKind.i64.wrap (S2 + (pr.size : Int)) = S3 := ⟨_, rfl⟩
      by_cases h2 : 200 < S3
      · go_wp2_with fail
        go_quiet (fail)
        go_wp2_with fail
        go_ret
        exact ⟨false, rfl, (fun q => by cases q), dNb HB.out _⟩
      · go_wp2_with fail
        go_quiet (fail)
        go_wp2_with fail
        go_roundw
        case rel => exact ⟨k + 1, by omega, by go_num, Lib.hid (dNb HB.out _)⟩
        case measure => simp [intOf]; omega
    · obtain rfl : k = l.length := by omega
      by_cases h8 : l.length ≤ 80
      · have h8I : (l.length : Int) ≤ 80 := by omega
        have H8 := Lib.hid h8
        clear h8
        go_wp2_with fail
        go_ret
        exact ⟨true, rfl, fun _ => H8.out, HB.out⟩
      · have h8I : ¬ (l.length : Int) ≤ 80 := by omega
        clear h8
        go_wp2_with fail
        go_ret
        exact ⟨false, rfl, (fun q => by cases q), HB.out⟩
end Go.Proofs.YtiegoffdbhmfbaaGreatDoor
