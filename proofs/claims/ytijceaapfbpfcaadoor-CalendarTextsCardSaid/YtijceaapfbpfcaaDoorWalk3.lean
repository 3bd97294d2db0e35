/- The walks of Split. -/
import Derived.Test.YtijceaapfbpfcaaDoorWalk1
namespace Go.Proofs.YtijceaapfbpfcaaDoor
set_option linter.unusedVariables false
open Go.RowKit

/-- What Split returns is the date's reading. -/
def SplitV (n : Int) (v : Value) : Prop := ∃ y m d : Int, v = .tuple #[.int .i64 y, .int .i64 m, .int .i64 d] ∧ Reads n y m d ∧ y ≤ 2243
def SplitPost (n : Int) (w : World) (e : Ending) (w' : World) : Prop := ∃ v, e = .returned v ∧ SplitV n v ∧ w = w'
def RSplitPost (n : Int) (w : World) (e : Ending) (w' : World) : Prop := ∃ v, e = .returned v ∧ SplitV n v ∧ Below w.heap.size w w'
set_option maxHeartbeats 1000000 in
theorem split_no (n : Int) (w : World) (h : ¬ (0 ≤ n ∧ n ≤ 99999)) :
    Calls Tryd.prog 11 #[.int .i64 n] w fun e w' => e = .returned (.tuple #[.int .i64 0, .int .i64 0, .int .i64 0]) ∧ w = w' := by
  have hid := Lib.hid (isDate_any n w)
  have hdd := Lib.hid (decide_eq_false h)
  clear h
  go_enter Tryd.func11, Tryd.ntmps11
  go_wp2_with fail
  refine hid.out.mono ?_
  rintro e w' ⟨rfl, rfl⟩
  rw [hdd.out]
  go_wp2_with fail
  go_ret3
  exact ⟨rfl, rfl⟩
set_option maxHeartbeats 1000000 in
theorem rsplit_no (n : Int) (w : World) (h : ¬ (0 ≤ n ∧ n ≤ 99999)) :
    Calls Tryd.prog 12 #[.int .i64 n] w fun e w' => e = .returned (.tuple #[.int .i64 0, .int .i64 0, .int .i64 0]) ∧ w = w' := by
  have hid := Lib.hid (rIsDate_any n w)
  have hdd := Lib.hid (decide_eq_false h)
  clear h
  go_enter Tryd.func12, Tryd.ntmps12
  go_wp2_with fail
  refine hid.out.mono ?_
  rintro e w' ⟨rfl, rfl⟩
  rw [hdd.out]
  go_wp2_with fail
  go_ret3
  exact ⟨rfl, rfl⟩
set_option maxHeartbeats 1000000 in
theorem split_yes (n : Int) (w : World) (h0 : 0 ≤ n) (h1 : n ≤ 99999) (hm : MD w) : Calls Tryd.prog 11 #[.int .i64 n] w (SplitPost n w) := by
  have hid := Lib.hid (isDate_any n w)
  have hdd := Lib.hid (decide_eq_true (show 0 ≤ n ∧ n ≤ 99999 from ⟨h0, h1⟩))
  have hmh := Lib.hid hm
  clear hm
  go_enter Tryd.func11, Tryd.ntmps11
  go_wp2_with fail
  refine hid.out.mono ?_
  rintro e w' ⟨rfl, rfl⟩
  rw [hdd.out]
  go_wp2_with fail
  go_loop [0, 2] (fun r i => ∃ x : Int, 1970 ≤ x ∧ x ≤ 2243 ∧ i = .int .i64 x ∧ dby x ≤ n ∧ r = .int .i64 (n - dby x)) (fun r _ => (intOf r).toNat)
  case atStart => exact ⟨1970, by omega, by omega, rfl, by rw [dby_0]; omega, i64_eq (by rw [dby_0]; omega)⟩
  case round =>
    obtain ⟨x, hx1, hx2, rfl, hle0, rfl⟩ := hrel
    have hb := dby_bd x hx1
    have hs := Lib.hid (dby_succ x hx1)
    have hle := Lib.hid (yearLength_any x w (by omega))
    have hyb := yl_bd x
    have h2243 := Lib.hid (show x = 2243 → n - dby x < yl x from fun e => by subst e; rw [dby_2243]; omega)
    by_cases hge : yl x ≤ n - dby x
    · have hxl : x < 2243 := by
        have := h2243.out; omega
      generalize dby x = t at *
      go_wp2_with fail
      refine hle.out.mono ?_
      rintro e w' ⟨rfl, rfl⟩
      go_wp2_with fail
      refine hle.out.mono ?_
      rintro e w' ⟨rfl, rfl⟩
      go_wp2_with fail
      go_round
      case rel => exact ⟨x + 1, by omega, by omega, rfl, by rw [hs.out]; omega, i64_eq (by rw [hs.out]; omega)⟩
      case measure => simp [intOf]; omega
    · have hc13 := Lib.hid (cum_13 x)
      clear h2243
      go_wp2_with fail
      refine hle.out.mono ?_
      rintro e w' ⟨rfl, rfl⟩
      go_wp2_with fail
      go_loop [0, 3] (fun r i => ∃ k : Int, 1 ≤ k ∧ k ≤ 12 ∧ i = .int .i64 k ∧ dby x + cum x k ≤ n ∧ r = .int .i64 (n - dby x - cum x k)) (fun r _ => (intOf r).toNat)
      case atStart => exact ⟨1, by omega, by omega, rfl, by rw [cum_1]; omega, i64_eq (by rw [cum_1]; omega)⟩
      case round =>
        obtain ⟨k, hk1, hk2, rfl, hcl, rfl⟩ := hrel
        have hcb := cum_bd x k hk1
        have hcs := Lib.hid (cum_succ x k hk1)
        have hlm := Lib.hid (lengthOf_any x k w (by omega) hk1 (by omega) hmh.out)
        have hmb := ml_bd x k
        have hfin := Lib.hid (show ¬ ml x k ≤ n - dby x - cum x k → SplitV n (.tuple #[.int .i64 x, .int .i64 k, .int .i64 (n - dby x - cum x k + 1)]) from fun h => ⟨x, k, _, rfl, ⟨hx1, hk1, hk2, by omega, by omega, by omega⟩, hx2⟩)
        by_cases hgm : ml x k ≤ n - dby x - cum x k
        · have hk12 : k < 12 := by
            rcases Int.lt_or_eq_of_le hk2 with c | c
            · exact c
            · have e1 := hcs.out; have e2 := hc13.out; subst c; rw [show (12 : Int) + 1 = 13 from rfl] at e1; omega
          generalize cum x k = c at *
          generalize dby x = t at *
          go_wp2_with fail
          refine hlm.out.mono ?_
          rintro e w' ⟨rfl, rfl⟩
          go_wp2_with fail
          refine hlm.out.mono ?_
          rintro e w' ⟨rfl, rfl⟩
          go_wp2_with fail
          go_round
          case rel => exact ⟨k + 1, by omega, by omega, rfl, by rw [hcs.out]; omega, i64_eq (by rw [hcs.out]; omega)⟩
          case measure => simp [intOf]; omega
        · have hF := Lib.hid (hfin.out hgm)
          clear hfin
          go_wp2_with fail
          refine hlm.out.mono ?_
          rintro e w' ⟨rfl, rfl⟩
          go_wp2_with fail
          go_ret3
          exact ⟨_, rfl, hF.out, rfl⟩
end Go.Proofs.YtijceaapfbpfcaaDoor
