/- The examples of the chapter, walked. -/
import Derived.Test.YtimjohcflclpmaaWalk4
import Derived.Test.YtimjohcflclpmaaWalk5
namespace Go.Proofs.Ytimjohcflclpmaa
set_option linter.unusedVariables false
open Go.RowKit

theorem below2 {a b c : World} (h : Below a.heap.size a b) (k : Below b.heap.size b c) : Below a.heap.size a c := h.trans (k.mono h.size)
theorem ex1 (w : World) : Calls Try.prog 13 #[.string ⟨#[97, 101, 56, 98, 55, 98, 101, 52, 51]⟩] w fun e w' => e = .returned (.tuple #[.string ⟨#[97]⟩, .int .i64 0]) ∧ Below w.heap.size w w' :=
  (open_any ⟨#[97, 101, 56, 98, 55, 98, 101, 52, 51]⟩ w (by decide)).mono fun e w' ⟨h1, h2⟩ => ⟨h1.trans (congrArg Ending.returned (by kernel_rfl)), h2⟩
theorem ex2 (w : World) : Calls Try.prog 13 #[.string ⟨#[97, 101, 56, 98, 55, 98, 101, 52, 52]⟩] w fun e w' => e = .returned (.tuple #[.string ⟨#[]⟩, .int .i64 9]) ∧ Below w.heap.size w w' :=
  (open_any ⟨#[97, 101, 56, 98, 55, 98, 101, 52, 52]⟩ w (by decide)).mono fun e w' ⟨h1, h2⟩ => ⟨h1.trans (congrArg Ending.returned (by kernel_rfl)), h2⟩
theorem ex3 (w : World) : Calls Try.prog 13 #[.string ⟨#[56, 98, 55, 98, 101, 52, 51]⟩] w fun e w' => e = .returned (.tuple #[.string ⟨#[]⟩, .int .i64 1]) ∧ Below w.heap.size w w' :=
  (open_any ⟨#[56, 98, 55, 98, 101, 52, 51]⟩ w (by decide)).mono fun e w' ⟨h1, h2⟩ => ⟨h1.trans (congrArg Ending.returned (by kernel_rfl)), h2⟩
theorem ex4 (w : World) : Calls Try.prog 17 #[.string ⟨#[49, 50, 51, 52, 53, 54, 55, 56, 57]⟩] w fun e w' => e = .returned (.int .u32 3421780262) ∧ w = w' :=
  (crc_any ⟨#[49, 50, 51, 52, 53, 54, 55, 56, 57]⟩ w (by decide)).mono fun e w' ⟨h1, h2⟩ => ⟨h1.trans (congrArg Ending.returned (by kernel_rfl)), h2⟩
theorem ex5 (w : World) : Calls Try.prog 19 #[.string ⟨#[97]⟩] w fun e w' => e = .returned (.int .u64 12638187200555641996) ∧ w = w' :=
  (hash_any ⟨#[97]⟩ w (by decide)).mono fun e w' ⟨h1, h2⟩ => ⟨h1.trans (congrArg Ending.returned (by kernel_rfl)), h2⟩
theorem ex6 (w : World) (b : Nat) (cap : Nat) (h0 : w.cell? ⟨b, 0, none⟩ = some (.string ⟨#[52, 48, 48, 48, 48, 48, 48, 48, 48, 48, 48, 48, 48, 48, 55, 55]⟩)) (h1 : w.cell? ⟨b, 1, none⟩ = some (.string ⟨#[57, 57, 120, 57, 57, 57, 57, 57, 57, 57]⟩)) :
    Calls Try.prog 11 #[.slice (some ⟨b, 0, none⟩) 2 cap] w fun e w' => e = .returned (.int .i64 10000076) ∧ w = w' :=
  (total_any (some ⟨b, 0, none⟩) cap [⟨#[52, 48, 48, 48, 48, 48, 48, 48, 48, 48, 48, 48, 48, 48, 55, 55]⟩, ⟨#[57, 57, 120, 57, 57, 57, 57, 57, 57, 57]⟩] w (by decide)
    (.inr ⟨b, 0, rfl, fun i hi => by
      match i, hi with
      | 0, _ => exact h0
      | 1, _ => exact h1⟩) (fun i hi => by
      match i, hi with
      | 0, _ => decide
      | 1, _ => decide)).mono fun e w' ⟨h1, h2⟩ => ⟨h1.trans (congrArg Ending.returned (by kernel_rfl)), h2⟩
theorem ex7 (w : World) : Calls Try.prog 15 #[.string ⟨#[97]⟩] w fun e w' => e = .returned (.string ⟨#[97, 101, 56, 98, 55, 98, 101, 52, 51]⟩) ∧ Below w.heap.size w w' :=
  (seal_any ⟨#[97]⟩ w (by decide)).mono fun e w' ⟨h1, h2⟩ => ⟨h1.trans (congrArg Ending.returned (by kernel_rfl)), h2⟩
set_option maxHeartbeats 800000 in
theorem awake_any (w : World) : Calls Try.prog 10 #[] w fun e w' => e = .returned (.bool true) ∧ Below w.heap.size w w' := by
  go_enter Try.func10, Try.ntmps10
  go_wp2_with fail
  refine (ex1 _).mono ?_
  rintro e w1 ⟨rfl, hb1⟩
  go_wp2_with fail
  refine (ex2 _).mono ?_
  rintro e w2 ⟨rfl, hb2⟩
  go_wp2_with fail
  refine (ex3 _).mono ?_
  rintro e w3 ⟨rfl, hb3⟩
  go_wp2_with fail
  refine (ex4 _).mono ?_
  rintro e w4 ⟨rfl, rfl⟩
  go_wp2_with fail
  refine (ex5 _).mono ?_
  rintro e w5 ⟨rfl, rfl⟩
  go_wp2_with fail
  refine (ex6 _ _ _ (by rw [World.cell?_alloc_mark]; rfl) (by rw [World.cell?_alloc_mark]; rfl)).mono ?_
  rintro e w6 ⟨rfl, rfl⟩
  go_wp2_with fail
  refine (ex7 _).mono ?_
  rintro e w7 ⟨rfl, hb7⟩
  go_wp2_with fail
  go_ret
  exact ⟨rfl, below2 (below2 (below2 (below2 hb1 hb2) hb3) ((Below.refl _ _).alloc (Nat.le_refl _) _)) hb7⟩
end Go.Proofs.Ytimjohcflclpmaa
