/- The examples of the chapter, walked. -/
import Derived.Test.YtijceaapfbpfcaaDoorNew
import Derived.Test.YtijceaapfbpfcaaDoorFmt
namespace Go.Proofs.YtijceaapfbpfcaaDoor
set_option linter.unusedVariables false
open Go.RowKit

theorem ex_of1 (w : World) (hm : MD w) : Calls Tryd.prog 9 #[.int .i64 1970, .int .i64 3, .int .i64 1] w fun e w' => e = .returned (.tuple #[.int .i64 59, .int .i64 0]) ∧ w = w' :=
  (of_any 1970 3 1 w hm).mono fun e w' ⟨h1, h2⟩ => ⟨h1.trans (congrArg Ending.returned (by kernel_rfl)), h2⟩
theorem ex_of2 (w : World) (hm : MD w) : Calls Tryd.prog 9 #[.int .i64 2100, .int .i64 2, .int .i64 29] w fun e w' => e = .returned (.tuple #[.int .i64 0, .int .i64 4]) ∧ w = w' :=
  (of_any 2100 2 29 w hm).mono fun e w' ⟨h1, h2⟩ => ⟨h1.trans (congrArg Ending.returned (by kernel_rfl)), h2⟩
theorem ex_wk (w : World) : Calls Tryd.prog 15 #[.int .i64 0] w fun e w' => e = .returned (.int .i64 3) ∧ w = w' :=
  (weekday_any 0 w).mono fun e w' ⟨h1, h2⟩ => ⟨h1.trans (congrArg Ending.returned (by kernel_rfl)), h2⟩
theorem reads59 : Reads 59 1970 3 1 := ⟨by omega, by omega, by omega, by omega, by decide, by decide⟩
theorem ex_fmt (w : World) (hm : MD w) (ht : TabW w) : Calls Tryd.prog 17 #[.int .i64 59] w fun e w' => e = .returned (.string ⟨#[49, 57, 55, 48, 45, 48, 51, 45, 48, 49]⟩) ∧ Below w.heap.size w w' :=
  (format_yes 59 w (by omega) (by omega) hm ht).mono fun e w' ⟨y, m, d, h1, h2, h3⟩ => by
    obtain ⟨rfl, rfl, rfl⟩ := h2.one reads59
    exact ⟨h1.trans (congrArg Ending.returned (by kernel_rfl)), h3⟩
theorem ex_next (bc : Nat) (w : World) (hc : CalW w bc [4]) : Calls Tryd.prog 26 #[.pointer (some ⟨bc, 0, none⟩), .int .i64 2] w fun e w' => e = .returned (.tuple #[.int .i64 5, .int .i64 0]) ∧ w = w' :=
  (next_yes bc [4] 2 w hc (by omega) (by omega)).mono fun e w' ⟨h0, h⟩ => by
    refine ⟨?_, h0⟩
    have b5 : bus [4] 5 = true := by decide
    rcases h with ⟨x, h1, h2, h3, h4, h5⟩ | ⟨h1, h2⟩
    · have : x = 5 := by
        rcases Int.lt_trichotomy x 5 with c | c | c
        · have hx : x = 2 ∨ x = 3 ∨ x = 4 := by omega
          rcases hx with rfl | rfl | rfl
          · exact absurd h3 (by decide)
          · exact absurd h3 (by decide)
          · exact absurd h3 (by decide)
        · exact c
        · have := h4 5 (by omega) c; rw [b5] at this; cases this
      subst this
      exact h5
    · have := h1 5 (by omega) (by omega); rw [b5] at this; cases this
theorem ex_count (bc : Nat) (w : World) (hc : CalW w bc [4]) : Calls Tryd.prog 28 #[.pointer (some ⟨bc, 0, none⟩), .int .i64 0, .int .i64 7] w fun e w' => e = .returned (.int .i64 4) ∧ w = w' :=
  (count_yes bc [4] 0 7 w hc (by omega) (by omega) (by omega) (by omega)).mono fun e w' ⟨h1, h2⟩ => ⟨h1.trans (congrArg Ending.returned (by kernel_rfl)), h2⟩
theorem ex_bus (bc : Nat) (w : World) (hc : CalW w bc [4]) : Calls Tryd.prog 27 #[.pointer (some ⟨bc, 0, none⟩), .int .i64 4] w fun e w' => e = .returned (.bool false) ∧ w = w' :=
  (business_any bc [4] 4 w hc).mono fun e w' ⟨h1, h2⟩ => ⟨h1.trans (congrArg Ending.returned (by kernel_rfl)), h2⟩
def NewEx (w : World) (e : Ending) (w' : World) : Prop := ∃ bc, e = .returned (.tuple #[.pointer (some ⟨bc, 0, none⟩), .int .i64 0]) ∧ CalW w' bc [4] ∧ Below w.heap.size w w'
theorem ex_new (b cap : Nat) (w : World) (hc : w.cell? ⟨b, 0, none⟩ = some (.int .i64 4)) : Calls Tryd.prog 24 #[.slice (some ⟨b, 0, none⟩) 1 cap] w (NewEx w) :=
  (new_any (some ⟨b, 0, none⟩) cap [4] w (.inr ⟨b, 0, rfl, fun i hi => by
      match i, hi with
      | 0, _ => exact hc⟩) (by decide)).mono fun e w' ⟨h0, h⟩ => by
    rcases h with ⟨_, bc, h1, h2⟩ | ⟨h1, _⟩
    · exact ⟨bc, h1, h2, h0⟩
    · exact absurd h1 (by decide)
set_option maxHeartbeats 800000 in
theorem awake_any (w : World) (hm : MD w) (ht : TabW w) : Calls Tryd.prog 19 #[] w fun e w' => e = .returned (.bool true) ∧ Below w.heap.size w w' := by
  have hmh := Lib.hid hm
  have hth := Lib.hid ht
  have hO1 := Lib.hid (ex_of1 w hm)
  have hO2 := Lib.hid (ex_of2 w hm)
  have hNw := Lib.hid (ex_new w.heap.size 1 (w.alloc (.cells #[.int .i64 4] 3)) (by rw [World.cell?_alloc_mark]; rfl))
  clear hm ht
  go_enter Tryd.func19, Tryd.ntmps19
  go_wp2_with fail
  refine hO1.out.mono ?_
  rintro e w' ⟨rfl, rfl⟩
  go_wp2_with fail
  refine hO2.out.mono ?_
  rintro e w' ⟨rfl, rfl⟩
  go_wp2_with fail
  refine hNw.out.mono ?_
  rintro e w1 ⟨bc, rfl, hcal, hb1⟩
  have HC := Lib.hid hcal
  have HB := Lib.hid (((Below.refl w.heap.size w).alloc (Nat.le_refl _) (.cells #[.int .i64 4] 3)).trans (hb1.mono (by simp)))
  clear hcal hb1
  go_wp2_with fail
  refine (ex_wk _).mono ?_
  rintro e w' ⟨rfl, rfl⟩
  go_wp2_with fail
  refine (ex_fmt _ (hmh.out.below HB.out) (hth.out.below HB.out)).mono ?_
  rintro e w2 ⟨rfl, hb2⟩
  have HC2 := Lib.hid (HC.out.below hb2)
  have HB2 := Lib.hid (below2 HB.out hb2)
  clear hb2
  go_wp2_with fail
  refine (ex_next bc _ HC2.out).mono ?_
  rintro e w' ⟨rfl, rfl⟩
  go_wp2_with fail
  refine (ex_count bc _ HC2.out).mono ?_
  rintro e w' ⟨rfl, rfl⟩
  go_wp2_with fail
  refine (ex_bus bc _ HC2.out).mono ?_
  rintro e w' ⟨rfl, rfl⟩
  go_wp2_with fail
  go_ret
  exact ⟨rfl, HB2.out⟩
end Go.Proofs.YtijceaapfbpfcaaDoor
