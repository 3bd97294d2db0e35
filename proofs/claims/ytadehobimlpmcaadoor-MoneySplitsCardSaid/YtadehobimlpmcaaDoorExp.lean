/- The walk of Exponent: the table of the currencies whose exponent is not 2. -/
import Derived.Test.YtadehobimlpmcaaDoorMon
import Derived.Test.YtadehobimlpmcaaDoorTxt
import Derived.Test.YtadehobimlpmcaaDoorCmp
import Derived.Laws.Rows
namespace Go.Proofs.YtadehobimlpmcaaDoor
set_option linter.unusedVariables false
open Go.RowKit

/-- The table's cells. -/
def decL : List (ByteArray × Int) := [(⟨#[74, 80, 89]⟩, 0), (⟨#[75, 82, 87]⟩, 0), (⟨#[86, 78, 68]⟩, 0), (⟨#[67, 76, 80]⟩, 0), (⟨#[73, 83, 75]⟩, 0), (⟨#[66, 72, 68]⟩, 3), (⟨#[75, 87, 68]⟩, 3), (⟨#[74, 79, 68]⟩, 3), (⟨#[79, 77, 82]⟩, 3), (⟨#[84, 78, 68]⟩, 3)]
def decC : Array Value := (decL.flatMap fun p => [.string p.1, .int .i64 p.2]).toArray
def decS (k : Nat) : ByteArray := (decL.getD k default).1
def decP (k : Nat) : Int := (decL.getD k default).2
/-- The table stands in its variable. -/
def DecW (w : World) : Prop := 2 < w.heap.size ∧ ∃ t fr, w.heap[2]? = some (.cells decC t fr)
theorem DecW.below {w w' : World} (h : DecW w) (hb : Below w.heap.size w w') : DecW w' := by
  obtain ⟨h1, t, fr, h2⟩ := h
  exact ⟨Nat.lt_of_lt_of_le h1 hb.size, t, fr, blk_later h2 hb⟩
theorem dec_at0 (w : World) : (Instr.index 85 (.agg decC) (.int .i64 (0 : Int))).run Tryd.prog w = .ok (.agg #[.string (decS 0), .int .i64 (decP 0)]) w := by kernel_rfl
theorem dec_at1 (w : World) : (Instr.index 85 (.agg decC) (.int .i64 (1 : Int))).run Tryd.prog w = .ok (.agg #[.string (decS 1), .int .i64 (decP 1)]) w := by kernel_rfl
theorem dec_at2 (w : World) : (Instr.index 85 (.agg decC) (.int .i64 (2 : Int))).run Tryd.prog w = .ok (.agg #[.string (decS 2), .int .i64 (decP 2)]) w := by kernel_rfl
theorem dec_at3 (w : World) : (Instr.index 85 (.agg decC) (.int .i64 (3 : Int))).run Tryd.prog w = .ok (.agg #[.string (decS 3), .int .i64 (decP 3)]) w := by kernel_rfl
theorem dec_at4 (w : World) : (Instr.index 85 (.agg decC) (.int .i64 (4 : Int))).run Tryd.prog w = .ok (.agg #[.string (decS 4), .int .i64 (decP 4)]) w := by kernel_rfl
theorem dec_at5 (w : World) : (Instr.index 85 (.agg decC) (.int .i64 (5 : Int))).run Tryd.prog w = .ok (.agg #[.string (decS 5), .int .i64 (decP 5)]) w := by kernel_rfl
theorem dec_at6 (w : World) : (Instr.index 85 (.agg decC) (.int .i64 (6 : Int))).run Tryd.prog w = .ok (.agg #[.string (decS 6), .int .i64 (decP 6)]) w := by kernel_rfl
theorem dec_at7 (w : World) : (Instr.index 85 (.agg decC) (.int .i64 (7 : Int))).run Tryd.prog w = .ok (.agg #[.string (decS 7), .int .i64 (decP 7)]) w := by kernel_rfl
theorem dec_at8 (w : World) : (Instr.index 85 (.agg decC) (.int .i64 (8 : Int))).run Tryd.prog w = .ok (.agg #[.string (decS 8), .int .i64 (decP 8)]) w := by kernel_rfl
theorem dec_at9 (w : World) : (Instr.index 85 (.agg decC) (.int .i64 (9 : Int))).run Tryd.prog w = .ok (.agg #[.string (decS 9), .int .i64 (decP 9)]) w := by kernel_rfl
theorem dec_at (k : Nat) (hk : k < 10) (w : World) : (Instr.index 85 (.agg decC) (.int .i64 (k : Int))).run Tryd.prog w = .ok (.agg #[.string (decS k), .int .i64 (decP k)]) w := by
  have hc : k = 0 ∨ k = 1 ∨ k = 2 ∨ k = 3 ∨ k = 4 ∨ k = 5 ∨ k = 6 ∨ k = 7 ∨ k = 8 ∨ k = 9 := by omega
  rcases hc with rfl | rfl | rfl | rfl | rfl | rfl | rfl | rfl | rfl | rfl
  · exact dec_at0 w
  · exact dec_at1 w
  · exact dec_at2 w
  · exact dec_at3 w
  · exact dec_at4 w
  · exact dec_at5 w
  · exact dec_at6 w
  · exact dec_at7 w
  · exact dec_at8 w
  · exact dec_at9 w
def expS (s : ByteArray) : Nat := expN s.data.toList
theorem exp_hit : ∀ k, k < 10 → (expS (decS k) : Int) = decP k := by decide
theorem exp_miss (s : ByteArray) (h : ∀ j, j < 10 → decS j ≠ s) : (expS s : Int) = 2 := by
  have hne : ∀ j, j < 10 → (decS j).data.toList ≠ s.data.toList := fun j hj e => h j hj (ByteArray.ext (Array.ext' e))
  have h0 := hne 0 (by omega)
  have h1 := hne 1 (by omega)
  have h2 := hne 2 (by omega)
  have h3 := hne 3 (by omega)
  have h4 := hne 4 (by omega)
  have h5 := hne 5 (by omega)
  have h6 := hne 6 (by omega)
  have h7 := hne 7 (by omega)
  have h8 := hne 8 (by omega)
  have h9 := hne 9 (by omega)
  have e1 : s.data.toList ∉ noPl := by
    intro hm
    simp only [noPl, List.mem_cons, List.not_mem_nil, or_false] at hm
    rcases hm with e | e | e | e | e
    · exact h0 e.symm
    · exact h1 e.symm
    · exact h2 e.symm
    · exact h3 e.symm
    · exact h4 e.symm
  have e2 : s.data.toList ∉ thPl := by
    intro hm
    simp only [thPl, List.mem_cons, List.not_mem_nil, or_false] at hm
    rcases hm with e | e | e | e | e
    · exact h5 e.symm
    · exact h6 e.symm
    · exact h7 e.symm
    · exact h8 e.symm
    · exact h9 e.symm
  unfold expS expN
  rw [if_neg e1, if_neg e2]; rfl
set_option maxHeartbeats 1600000 in
theorem exp_no (s : ByteArray) (w : World) (hs : s.size ≤ maxLen) (hc : curB s = false) : Calls Tryd.prog 41 #[.string s] w fun e w' => e = .returned (.tuple #[.int .i64 0, .bool false]) ∧ w = w' := by
  have HC := Lib.hid (fun W => cur_any s W hs)
  rw [hc] at HC
  clear hc hs
  go_enter Tryd.func41, Tryd.ntmps41
  go_wp2_with fail
  refine (HC.out _).mono ?_
  rintro e w1 ⟨rfl, rfl⟩
  go_wp2_with fail
  go_ret2
  exact ⟨rfl, rfl⟩
set_option maxHeartbeats 1600000 in
theorem exp_yes (s : ByteArray) (w : World) (hw : DecW w) (hs : s.size ≤ maxLen) (hc : curB s = true) : Calls Tryd.prog 41 #[.string s] w fun e w' => e = .returned (.tuple #[.int .i64 (expS s), .bool true]) ∧ Below w.heap.size w w' := by
  have HC := Lib.hid (fun W => cur_any s W hs)
  rw [hc] at HC
  obtain ⟨h2, t, fr, hg⟩ := hw
  have HG := Lib.hid hg
  have HM := Lib.hid (exp_miss s)
  clear hc hs hg
  go_enter Tryd.func41, Tryd.ntmps41
  go_wp2_with fail
  refine (HC.out _).mono ?_
  rintro e w1 ⟨rfl, rfl⟩
  go_wp2_with (refine wpList_load_row rfl 85 _ rfl 2 rfl _ decC _ _ HG.out Tryd.underlying85 rfl (by kernel_rfl) ?_)
  go_loopw [10] (fun i wr => ∃ k : Nat, k ≤ 10 ∧ i = .int .i64 k ∧ Hid (∀ j, j < k → decS j ≠ s) ∧ Below w.heap.size w wr) (fun i _ => 10 - (intOf i).toNat)
  case atStart => exact ⟨0, by omega, rfl, Lib.hid (fun j h => by omega), Below.refl _ _⟩
  case round =>
    obtain ⟨k, hk, rfl, hall, hb⟩ := hrel
    have HB := Lib.hid hb
    clear hb
    by_cases hlt : k < 10
    · have hix := Lib.hid (dec_at k hlt)
      have HH := Lib.hid (exp_hit k hlt)
      by_cases he : decS k = s
      · have hE := Lib.hid (show (expS s : Int) = decP k by rw [← he]; exact HH.out)
        have hs' := ba_same (decS k) s he
        have HE := Lib.hid he
        clear he
        have hix := hix.out
        generalize decS k = dk at *
        generalize decP k = pk at *
        go_wp2_with fail
        go_ret2
        exact ⟨by rw [hE.out]; rfl, HB.out.alloc HB.out.size _⟩
      · have hs' := ba_diff (decS k) s he
        have HN := Lib.hid (show ∀ j, j < k + 1 → decS j ≠ s from fun j hj => by
          rcases Nat.lt_or_ge j k with q | q
          · exact hall.out j q
          · obtain rfl : j = k := by omega
            exact he)
        clear he
        have hix := hix.out
        generalize decS k = dk at hix hs'
        generalize decP k = pk at hix
        go_wp2_with fail
        go_roundw
        case rel => exact ⟨k + 1, by omega, by go_num, HN, HB.out.alloc HB.out.size _⟩
        case measure => simp [intOf]; omega
    · obtain rfl : k = 10 := by omega
      have hE := Lib.hid (HM.out hall.out)
      go_wp2_with fail
      go_ret2
      exact ⟨by rw [hE.out]; rfl, HB.out⟩
end Go.Proofs.YtadehobimlpmcaaDoor
