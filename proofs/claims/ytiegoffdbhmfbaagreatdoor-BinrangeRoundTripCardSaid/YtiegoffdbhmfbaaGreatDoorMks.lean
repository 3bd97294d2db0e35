/- Ranges: the reference's Make at the chapter's examples. -/
import Derived.Test.YtiegoffdbhmfbaaGreatDoorSma
import Derived.Laws.BytesArg
namespace Go.Proofs.YtiegoffdbhmfbaaGreatDoor
set_option linter.unusedVariables false
open Go.RowKit

theorem conv57A (W : World) : (convert 45 9 (.slice (some ⟨W.heap.size, 0, none⟩) 1 1)).run Tryz.prog (W.alloc (.cells #[.int .u8 57] 5)) = .ok (.string ⟨#[57]⟩) (W.alloc (.cells #[.int .u8 57] 5)) := by
  have h := run_convert_bytes_arg (P := Tryz.prog) (W.alloc (.cells #[.int .u8 57] 5)) 45 5 Tryz.underlying45 Tryz.underlying5 W.heap.size 0 1 1 [57] rfl (fun i hi => by
    obtain rfl : i = 0 := by omega
    exact cell_c (heap_alloc_new W _) 0) 9 Tryz.underlying9
  exact h
def preA : ByteArray := ⟨#[52, 48, 53, 48, 48, 48]⟩
def numA : ByteArray := ⟨#[52, 48, 53, 48, 48, 48, 48, 48, 48, 48, 48, 48, 48, 48, 49]⟩
def panA : ByteArray := ⟨#[52, 48, 53, 48, 48, 48, 48, 48, 48, 48, 48, 48, 48, 48, 49, 57]⟩
set_option maxRecDepth 100000 in
set_option maxHeartbeats 6400000 in
theorem sumA (w : World) : Calls Tryz.prog 48 #[.string numA, .int .i64 2] w fun e w' => e = .returned (.int .i64 11) ∧ Below w.heap.size w w' := by
  unfold numA
  go_enter Tryz.func48, Tryz.ntmps48
  go_wp2_with fail
  refine wp_loop_rounds 16 ?_
  repeat any_goals (rw [rounds_succ]; go_wp2_with fail)
  go_ret
  exact ⟨rfl, Below.refl _ _⟩
set_option maxRecDepth 100000 in
set_option maxHeartbeats 6400000 in
theorem chdA (w : World) : Calls Tryz.prog 31 #[.string numA] w fun e w' => e = .returned (.tuple #[.int .u8 57, .int .i64 0]) ∧ Below w.heap.size w w' := by
  have HD := Lib.hid (fun W => rDig_any numA W (by decide))
  have HS := Lib.hid (fun W => sumA W)
  have hd : digsB numA = true := by decide
  rw [hd] at HD
  clear hd
  unfold numA at *
  go_enter Tryz.func31, Tryz.ntmps31
  go_wp2_with fail
  refine (HD.out _).mono ?_
  rintro e w2 ⟨rfl, hb⟩
  have HB := Lib.hid hb
  clear hb
  go_wp2_with fail
  refine (HS.out _).mono ?_
  rintro e w3 ⟨rfl, hb⟩
  have HB2 := Lib.hid (HB.out.trans (hb.mono HB.out.size))
  clear hb
  go_wp2_with fail
  go_ret2
  exact ⟨rfl, HB2.out⟩
set_option maxRecDepth 100000 in
set_option maxHeartbeats 6400000 in
theorem mkA (w : World) : Calls Tryz.prog 14 #[.string preA, .int .i64 1, .int .i64 16] w fun e w' => e = .returned (.tuple #[.string panA, .int .i64 0]) ∧ Below w.heap.size w w' := by
  have HD := Lib.hid (fun W => rDig_any preA W (by decide))
  have HC := Lib.hid (fun W => chdA W)
  have hd : digsB preA = true := by decide
  rw [hd] at HD
  clear hd
  have hcv := fun W => conv57A W
  unfold preA numA panA at *
  go_enter Tryz.func14, Tryz.ntmps14
  go_wp2_with fail
  refine (HD.out _).mono ?_
  rintro e w2 ⟨rfl, hb⟩
  have HB := Lib.hid hb
  clear hb
  go_wp2_with fail
  refine wp_loop_rounds 10 ?_
  repeat any_goals (rw [rounds_succ]; go_wp2_with fail)
  refine (HC.out _).mono ?_
  rintro e w3 ⟨rfl, hb⟩
  have HB2 := Lib.hid (HB.out.trans (hb.mono HB.out.size))
  clear hb
  go_wp2_with fail
  go_ret2
  exact ⟨rfl, HB2.out.trans ((alloc_lt _ _).mono HB2.out.size)⟩
theorem conv57B (W : World) : (convert 45 9 (.slice (some ⟨W.heap.size, 0, none⟩) 1 1)).run Tryz.prog (W.alloc (.cells #[.int .u8 57] 5)) = .ok (.string ⟨#[57]⟩) (W.alloc (.cells #[.int .u8 57] 5)) := by
  have h := run_convert_bytes_arg (P := Tryz.prog) (W.alloc (.cells #[.int .u8 57] 5)) 45 5 Tryz.underlying45 Tryz.underlying5 W.heap.size 0 1 1 [57] rfl (fun i hi => by
    obtain rfl : i = 0 := by omega
    exact cell_c (heap_alloc_new W _) 0) 9 Tryz.underlying9
  exact h
def preB : ByteArray := ⟨#[52, 49, 48, 48, 48, 48]⟩
def numB : ByteArray := ⟨#[52, 49, 48, 48, 48, 48, 48, 48, 48, 48, 48, 48, 48, 48, 49]⟩
def panB : ByteArray := ⟨#[52, 49, 48, 48, 48, 48, 48, 48, 48, 48, 48, 48, 48, 48, 49, 57]⟩
set_option maxRecDepth 100000 in
set_option maxHeartbeats 6400000 in
theorem sumB (w : World) : Calls Tryz.prog 48 #[.string numB, .int .i64 2] w fun e w' => e = .returned (.int .i64 11) ∧ Below w.heap.size w w' := by
  unfold numB
  go_enter Tryz.func48, Tryz.ntmps48
  go_wp2_with fail
  refine wp_loop_rounds 16 ?_
  repeat any_goals (rw [rounds_succ]; go_wp2_with fail)
  go_ret
  exact ⟨rfl, Below.refl _ _⟩
set_option maxRecDepth 100000 in
set_option maxHeartbeats 6400000 in
theorem chdB (w : World) : Calls Tryz.prog 31 #[.string numB] w fun e w' => e = .returned (.tuple #[.int .u8 57, .int .i64 0]) ∧ Below w.heap.size w w' := by
  have HD := Lib.hid (fun W => rDig_any numB W (by decide))
  have HS := Lib.hid (fun W => sumB W)
  have hd : digsB numB = true := by decide
  rw [hd] at HD
  clear hd
  unfold numB at *
  go_enter Tryz.func31, Tryz.ntmps31
  go_wp2_with fail
  refine (HD.out _).mono ?_
  rintro e w2 ⟨rfl, hb⟩
  have HB := Lib.hid hb
  clear hb
  go_wp2_with fail
  refine (HS.out _).mono ?_
  rintro e w3 ⟨rfl, hb⟩
  have HB2 := Lib.hid (HB.out.trans (hb.mono HB.out.size))
  clear hb
  go_wp2_with fail
  go_ret2
  exact ⟨rfl, HB2.out⟩
set_option maxRecDepth 100000 in
set_option maxHeartbeats 6400000 in
theorem mkB (w : World) : Calls Tryz.prog 14 #[.string preB, .int .i64 1, .int .i64 16] w fun e w' => e = .returned (.tuple #[.string panB, .int .i64 0]) ∧ Below w.heap.size w w' := by
  have HD := Lib.hid (fun W => rDig_any preB W (by decide))
  have HC := Lib.hid (fun W => chdB W)
  have hd : digsB preB = true := by decide
  rw [hd] at HD
  clear hd
  have hcv := fun W => conv57B W
  unfold preB numB panB at *
  go_enter Tryz.func14, Tryz.ntmps14
  go_wp2_with fail
  refine (HD.out _).mono ?_
  rintro e w2 ⟨rfl, hb⟩
  have HB := Lib.hid hb
  clear hb
  go_wp2_with fail
  refine wp_loop_rounds 10 ?_
  repeat any_goals (rw [rounds_succ]; go_wp2_with fail)
  refine (HC.out _).mono ?_
  rintro e w3 ⟨rfl, hb⟩
  have HB2 := Lib.hid (HB.out.trans (hb.mono HB.out.size))
  clear hb
  go_wp2_with fail
  go_ret2
  exact ⟨rfl, HB2.out.trans ((alloc_lt _ _).mono HB2.out.size)⟩
end Go.Proofs.YtiegoffdbhmfbaaGreatDoor
