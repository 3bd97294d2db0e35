/- The walk of awake: the chapter's example. -/
import Derived.Test.YtfhiepcjkocnlaaSha
import Derived.Test.YtfhiepcjkocnlaaTil
namespace Go.Proofs.Ytfhiepcjkocnlaa
set_option linter.unusedVariables false
open Go.RowKit

def vls : List Vol := [⟨⟨#[97]⟩, 100⟩, ⟨⟨#[98]⟩, 50⟩]
theorem ex_fee : feeV smp 150 = 65 ∧ feeE smp 150 = 0 := by decide +kernel
theorem ex_whole : wholeE smp vls = 0 := by decide +kernel
theorem ex_share : shareF smp vls 0 = 43 ∧ shareF smp vls 1 = 22 := by decide +kernel
theorem smp_up : upT smp := by
  intro k
  match k with
  | 0 => decide
  | 1 => decide
  | k + 2 =>
    have h : smp.getD (k + 2) default = default := rfl
    rw [h]; decide
set_option maxHeartbeats 1600000 in
theorem awake_any (w : World) : Calls Try.prog 9 #[] w fun e w' => e = .returned (.bool true) ∧ Below w.heap.size w w' := by
  have hl2 : smp.length = 2 := rfl
  have HF := Lib.hid (fun A c W h => fee_any A c smp 150 W h (by decide) smp_up)
  have HS := Lib.hid (fun A c B d W h hv => share_ok A c smp B d vls W h (by decide) smp_up hv (by decide) (by
    intro x hx
    simp [vls] at hx
    rcases hx with rfl | rfl <;> decide) ex_whole)
  rw [ex_fee.1, ex_fee.2] at HF
  clear hl2
  go_enter Try.func9, Try.ntmps9
  go_wp2_with fail
  refine (sample_any _).mono ?_
  rintro e w1 ⟨A1, c1, rfl, h1, hb1⟩
  have HB1 := Lib.hid hb1
  have HR1 := Lib.hid h1
  clear h1 hb1
  go_wp2_with fail
  refine (HF.out _ _ _ HR1.out).mono ?_
  rintro e w2 ⟨rfl, hb2⟩
  have HB2 := Lib.hid (HB1.out.trans (hb2.mono HB1.out.size))
  clear hb2
  go_wp2_with fail
  refine (sample_any _).mono ?_
  rintro e w3 ⟨A3, c3, rfl, h3, hb3⟩
  have HB3 := Lib.hid (HB2.out.trans (hb3.mono HB2.out.size))
  have hrow : IsRow (w3.alloc (.cells #[.string ⟨#[97]⟩, .int .i64 100, .string ⟨#[98]⟩, .int .i64 50] 31)) (some ⟨w3.heap.size, 0, none⟩) (cellsV vls) := by
    refine .inr ⟨w3.heap.size, 0, rfl, fun j v hj => ?_⟩
    have := World.news_of_block (heap_alloc_new w3 (.cells #[.string ⟨#[97]⟩, .int .i64 100, .string ⟨#[98]⟩, .int .i64 50] 31)) j v hj
    rwa [Addr.add_lit] at this
  have hr3 := h3.below ((Below.refl w3.heap.size w3).alloc (Nat.le_refl _) (.cells #[.string ⟨#[97]⟩, .int .i64 100, .string ⟨#[98]⟩, .int .i64 50] 31))
  have HC := Lib.hid (HS.out A3 c3 (some ⟨w3.heap.size, 0, none⟩) 2 _ hr3 hrow)
  have HB4 := Lib.hid (HB3.out.alloc HB3.out.size (.cells #[.string ⟨#[97]⟩, .int .i64 100, .string ⟨#[98]⟩, .int .i64 50] 31))
  clear h3 hb3 hrow hr3
  go_wp2_with fail
  refine HC.out.mono ?_
  rintro e w5 ⟨L, rfl, hrl, hL, hb5⟩
  have s0 := hrl.cell (i := 0) (by decide)
  have s1 := hrl.cell (i := 1) (by decide)
  rw [ex_share.1] at s0
  rw [ex_share.2] at s1
  have hvl : vls.length = 2 := rfl
  have HB5 := Lib.hid (HB4.out.trans (hb5.mono HB4.out.size))
  rw [hvl]
  clear hrl hb5 hL hvl
  go_wp2_with fail
  go_ret
  exact ⟨rfl, HB5.out⟩
end Go.Proofs.Ytfhiepcjkocnlaa
