/- The walks of the reference's Split, and of Weekday, Start, Day and AddMonths. -/
import Derived.Test.YtijceaapfbpfcaaDoorWalk2
import Derived.Test.YtijceaapfbpfcaaDoorWalk3
namespace Go.Proofs.YtijceaapfbpfcaaDoor
set_option linter.unusedVariables false
open Go.RowKit

set_option maxHeartbeats 1000000 in
theorem rsplit_yes (n : Int) (w : World) (h0 : 0 ≤ n) (h1 : n ≤ 99999) : Calls Tryd.prog 12 #[.int .i64 n] w (RSplitPost n w) := by
  have hid := Lib.hid (rIsDate_any n w)
  have hdd := Lib.hid (decide_eq_true (show 0 ≤ n ∧ n ≤ 99999 from ⟨h0, h1⟩))
  go_enter Tryd.func12, Tryd.ntmps12
  go_wp2_with fail
  refine hid.out.mono ?_
  rintro e w' ⟨rfl, rfl⟩
  rw [hdd.out]
  go_wp2_with fail
  go_loop [5] (fun i => ∃ x : Int, 1970 ≤ x ∧ x ≤ 2243 ∧ i = .int .i64 x ∧ dby x ≤ n) (fun i => (2243 - intOf i).toNat)
  case atStart => exact ⟨1970, by omega, by omega, rfl, by rw [dby_0]; omega⟩
  case round =>
    obtain ⟨x, hx1, hx2, rfl, hle0⟩ := hrel
    have hs := Lib.hid (dby_succ x hx1)
    have hbf := Lib.hid (before_any (x + 1) w (by omega) (by omega))
    have hbx := Lib.hid (before_any x w hx1 (by omega))
    have hb := dby_bd (x + 1) (by omega)
    have hb' := dby_bd x hx1
    by_cases hge : dby (x + 1) ≤ n
    · have hxl : x < 2243 := by
        rcases Int.lt_or_eq_of_le hx2 with c | c
        · exact c
        · subst c; rw [show (2243 : Int) + 1 = 2244 from rfl, dby_2244] at hge; omega
      go_wp2_with fail
      refine hbf.out.mono ?_
      rintro e w' ⟨rfl, rfl⟩
      go_wp2_with fail
      go_round
      case rel => exact ⟨x + 1, by omega, by omega, rfl, hge⟩
      case measure => simp [intOf]; omega
    · have hc13 := Lib.hid (cum_13 x)
      have hyl := Lib.hid (show n - dby x < yl x by have := hs.out; omega)
      go_wp2_with fail
      refine hbf.out.mono ?_
      rintro e w' ⟨rfl, rfl⟩
      go_wp2_with fail
      refine hbx.out.mono ?_
      rintro e w' ⟨rfl, rfl⟩
      go_wp2_with fail
      clear hge hb hbf hbx
      go_loopw [6, 7] (fun r i wr => ∃ k : Int, 1 ≤ k ∧ k ≤ 12 ∧ i = .int .i64 k ∧ dby x + cum x k ≤ n ∧ r = .int .i64 (n - dby x - cum x k) ∧ Below w.heap.size w wr) (fun r _ _ => (intOf r).toNat)
      case atStart => exact ⟨1, by omega, by omega, rfl, by rw [cum_1]; omega, i64_eq (by rw [cum_1]; omega), Below.refl _ _⟩
      case round =>
        obtain ⟨k, hk1, hk2, rfl, hcl, rfl, hbw⟩ := hrel
        have HBW := Lib.hid hbw
        clear hbw
        have hcb := cum_bd x k hk1
        have hcs := Lib.hid (cum_succ x k hk1)
        have hlm := Lib.hid (fun W : World => days_any x k W (by omega) hk1 (by omega))
        have hmb := ml_bd x k
        have hfin := Lib.hid (show ¬ ml x k ≤ n - dby x - cum x k → SplitV n (.tuple #[.int .i64 x, .int .i64 k, .int .i64 (n - dby x - cum x k + 1)]) from fun h => ⟨x, k, _, rfl, ⟨hx1, hk1, hk2, by omega, by omega, by omega⟩, hx2⟩)
        by_cases hgm : ml x k ≤ n - dby x - cum x k
        · have hk12 : k < 12 := by
            rcases Int.lt_or_eq_of_le hk2 with c | c
            · exact c
            · have e1 := hcs.out; have e2 := hc13.out; have e3 := hyl.out; subst c; rw [show (12 : Int) + 1 = 13 from rfl] at e1; omega
          generalize cum x k = c at *
          generalize dby x = t at *
          go_wp2_with fail
          refine (hlm.out _).mono ?_
          rintro e w1 ⟨rfl, hb1⟩
          go_wp2_with fail
          refine (hlm.out _).mono ?_
          rintro e w2 ⟨rfl, hb2⟩
          go_wp2_with fail
          go_roundw
          case rel => exact ⟨k + 1, by omega, by omega, rfl, by rw [hcs.out]; omega, i64_eq (by rw [hcs.out]; omega), below2 (below2 HBW.out hb1) hb2⟩
          case measure => simp [intOf]; omega
        · have hF := Lib.hid (hfin.out hgm)
          clear hfin
          go_wp2_with fail
          refine (hlm.out _).mono ?_
          rintro e w1 ⟨rfl, hb1⟩
          go_wp2_with fail
          go_ret3
          exact ⟨_, rfl, hF.out, below2 HBW.out hb1⟩
/-- What Weekday returns. -/
def wkd (n : Int) : Int := if 0 ≤ n ∧ n ≤ 99999 then (n + 3) % 7 else -1
theorem wkd_yes (n : Int) (h : 0 ≤ n ∧ n ≤ 99999) : wkd n = (n + 3) % 7 := if_pos h
theorem wkd_no (n : Int) (h : ¬ (0 ≤ n ∧ n ≤ 99999)) : wkd n = -1 := if_neg h
def stN (n : Int) : Int := if 0 ≤ n ∧ n ≤ 99999 then n * 86400 else 0
def stE (n : Int) : Int := if 0 ≤ n ∧ n ≤ 99999 then 0 else 4
theorem st_yes (n : Int) (h : 0 ≤ n ∧ n ≤ 99999) : Value.tuple #[.int .i64 (stN n), .int .i64 (stE n)] = .tuple #[.int .i64 (n * 86400), .int .i64 0] := by unfold stN stE; rw [if_pos h, if_pos h]
theorem st_no (n : Int) (h : ¬ (0 ≤ n ∧ n ≤ 99999)) : Value.tuple #[.int .i64 (stN n), .int .i64 (stE n)] = .tuple #[.int .i64 0, .int .i64 4] := by unfold stN stE; rw [if_neg h, if_neg h]
def okDay (a : Int) : Bool := decide (0 ≤ a ∧ a ≤ 1099511627776 ∧ a / 86400 ≤ 99999)
def dyN (a : Int) : Int := if okDay a then a / 86400 else -1
def dyS (a : Int) : Int := if okDay a then a % 86400 else -1
theorem dy_yes (a : Int) (h : 0 ≤ a ∧ a ≤ 1099511627776 ∧ a / 86400 ≤ 99999) : Value.tuple #[.int .i64 (dyN a), .int .i64 (dyS a)] = .tuple #[.int .i64 (a / 86400), .int .i64 (a % 86400)] := by
  have : okDay a = true := decide_eq_true h
  unfold dyN dyS; rw [this]; rfl
theorem dy_no (a : Int) (h : ¬ (0 ≤ a ∧ a ≤ 1099511627776 ∧ a / 86400 ≤ 99999)) : Value.tuple #[.int .i64 (dyN a), .int .i64 (dyS a)] = .tuple #[.int .i64 (-1), .int .i64 (-1)] := by
  have : okDay a = false := decide_eq_false h
  unfold dyN dyS; rw [this]; rfl
set_option maxHeartbeats 400000 in
theorem weekday_any (n : Int) (w : World) :
    Calls Tryd.prog 15 #[.int .i64 n] w fun e w' => e = .returned (.int .i64 (wkd n)) ∧ w = w' := by
  have hid := Lib.hid (isDate_any n w)
  by_cases h : 0 ≤ n ∧ n ≤ 99999
  · have hdd := Lib.hid (decide_eq_true h)
    have hv := Lib.hid (wkd_yes n h)
    obtain ⟨h0, h1⟩ := h
    go_enter Tryd.func15, Tryd.ntmps15
    go_wp2_with fail
    refine hid.out.mono ?_
    rintro e w' ⟨rfl, rfl⟩
    rw [hdd.out]
    go_wp2_with fail
    go_ret
    exact ⟨ret_int (by rw [hv.out]), rfl⟩
  · have hdd := Lib.hid (decide_eq_false h)
    have hv := Lib.hid (wkd_no n h)
    clear h
    go_enter Tryd.func15, Tryd.ntmps15
    go_wp2_with fail
    refine hid.out.mono ?_
    rintro e w' ⟨rfl, rfl⟩
    rw [hdd.out]
    go_wp2_with fail
    go_ret
    exact ⟨ret_int (by rw [hv.out]), rfl⟩
set_option maxHeartbeats 400000 in
theorem rweekday_any (n : Int) (w : World) :
    Calls Tryd.prog 16 #[.int .i64 n] w fun e w' => e = .returned (.int .i64 (wkd n)) ∧ w = w' := by
  have hid := Lib.hid (rIsDate_any n w)
  by_cases h : 0 ≤ n ∧ n ≤ 99999
  · have hdd := Lib.hid (decide_eq_true h)
    have hv := Lib.hid (wkd_yes n h)
    obtain ⟨h0, h1⟩ := h
    go_enter Tryd.func16, Tryd.ntmps16
    go_wp2_with fail
    refine hid.out.mono ?_
    rintro e w' ⟨rfl, rfl⟩
    rw [hdd.out]
    go_wp2_with fail
    go_ret
    exact ⟨ret_int (by rw [hv.out]), rfl⟩
  · have hdd := Lib.hid (decide_eq_false h)
    have hv := Lib.hid (wkd_no n h)
    clear h
    go_enter Tryd.func16, Tryd.ntmps16
    go_wp2_with fail
    refine hid.out.mono ?_
    rintro e w' ⟨rfl, rfl⟩
    rw [hdd.out]
    go_wp2_with fail
    go_ret
    exact ⟨ret_int (by rw [hv.out]), rfl⟩
set_option maxHeartbeats 400000 in
theorem start_any (n : Int) (w : World) :
    Calls Tryd.prog 13 #[.int .i64 n] w fun e w' => e = .returned (.tuple #[.int .i64 (stN n), .int .i64 (stE n)]) ∧ w = w' := by
  have hid := Lib.hid (isDate_any n w)
  by_cases h : 0 ≤ n ∧ n ≤ 99999
  · have hdd := Lib.hid (decide_eq_true h)
    have hv := Lib.hid (st_yes n h)
    obtain ⟨h0, h1⟩ := h
    go_enter Tryd.func13, Tryd.ntmps13
    go_wp2_with fail
    refine hid.out.mono ?_
    rintro e w' ⟨rfl, rfl⟩
    rw [hdd.out]
    go_wp2_with fail
    go_ret2
    exact ⟨by rw [hv.out]; rfl, rfl⟩
  · have hdd := Lib.hid (decide_eq_false h)
    have hv := Lib.hid (st_no n h)
    clear h
    go_enter Tryd.func13, Tryd.ntmps13
    go_wp2_with fail
    refine hid.out.mono ?_
    rintro e w' ⟨rfl, rfl⟩
    rw [hdd.out]
    go_wp2_with fail
    go_ret2
    exact ⟨by rw [hv.out]; rfl, rfl⟩
set_option maxHeartbeats 400000 in
theorem rstart_any (n : Int) (w : World) :
    Calls Tryd.prog 14 #[.int .i64 n] w fun e w' => e = .returned (.tuple #[.int .i64 (stN n), .int .i64 (stE n)]) ∧ w = w' := by
  have hid := Lib.hid (rIsDate_any n w)
  by_cases h : 0 ≤ n ∧ n ≤ 99999
  · have hdd := Lib.hid (decide_eq_true h)
    have hv := Lib.hid (st_yes n h)
    obtain ⟨h0, h1⟩ := h
    go_enter Tryd.func14, Tryd.ntmps14
    go_wp2_with fail
    refine hid.out.mono ?_
    rintro e w' ⟨rfl, rfl⟩
    rw [hdd.out]
    go_wp2_with fail
    go_ret2
    exact ⟨by rw [hv.out]; rfl, rfl⟩
  · have hdd := Lib.hid (decide_eq_false h)
    have hv := Lib.hid (st_no n h)
    clear h
    go_enter Tryd.func14, Tryd.ntmps14
    go_wp2_with fail
    refine hid.out.mono ?_
    rintro e w' ⟨rfl, rfl⟩
    rw [hdd.out]
    go_wp2_with fail
    go_ret2
    exact ⟨by rw [hv.out]; rfl, rfl⟩
set_option maxHeartbeats 400000 in
theorem day_any (a : Int) (w : World) :
    Calls Tryd.prog 22 #[.int .i64 a] w fun e w' => e = .returned (.tuple #[.int .i64 (dyN a), .int .i64 (dyS a)]) ∧ w = w' := by
  by_cases h0 : 0 ≤ a
  case neg =>
    have hv := Lib.hid (dy_no a (fun h => h0 h.1))
    go_enter Tryd.func22, Tryd.ntmps22
    go_wp2_with fail
    go_ret2
    exact ⟨by rw [hv.out]; rfl, rfl⟩
  by_cases h1 : a ≤ 1099511627776
  case neg =>
    have hv := Lib.hid (dy_no a (fun h => h1 h.2.1))
    go_enter Tryd.func22, Tryd.ntmps22
    go_wp2_with fail
    go_ret2
    exact ⟨by rw [hv.out]; rfl, rfl⟩
  have hid := Lib.hid (isDate_any (a / 86400) w)
  by_cases h2 : a / 86400 ≤ 99999
  · have hv := Lib.hid (dy_yes a ⟨h0, h1, h2⟩)
    have hdd := Lib.hid (decide_eq_true (show 0 ≤ a / 86400 ∧ a / 86400 ≤ 99999 by omega))
    go_enter Tryd.func22, Tryd.ntmps22
    go_wp2_with fail
    refine hid.out.mono ?_
    rintro e w' ⟨rfl, rfl⟩
    rw [hdd.out]
    go_wp2_with fail
    go_ret2
    exact ⟨by rw [hv.out]; rfl, rfl⟩
  · have hv := Lib.hid (dy_no a (fun h => h2 h.2.2))
    have hdd := Lib.hid (decide_eq_false (show ¬ (0 ≤ a / 86400 ∧ a / 86400 ≤ 99999) by omega))
    go_enter Tryd.func22, Tryd.ntmps22
    go_wp2_with fail
    refine hid.out.mono ?_
    rintro e w' ⟨rfl, rfl⟩
    rw [hdd.out]
    go_wp2_with fail
    go_ret2
    exact ⟨by rw [hv.out]; rfl, rfl⟩
set_option maxHeartbeats 400000 in
theorem rday_any (a : Int) (w : World) :
    Calls Tryd.prog 23 #[.int .i64 a] w fun e w' => e = .returned (.tuple #[.int .i64 (dyN a), .int .i64 (dyS a)]) ∧ w = w' := by
  by_cases h0 : 0 ≤ a
  case neg =>
    have hv := Lib.hid (dy_no a (fun h => h0 h.1))
    go_enter Tryd.func23, Tryd.ntmps23
    go_wp2_with fail
    go_ret2
    exact ⟨by rw [hv.out]; rfl, rfl⟩
  by_cases h1 : a ≤ 1099511627776
  case neg =>
    have hv := Lib.hid (dy_no a (fun h => h1 h.2.1))
    go_enter Tryd.func23, Tryd.ntmps23
    go_wp2_with fail
    go_ret2
    exact ⟨by rw [hv.out]; rfl, rfl⟩
  have hid := Lib.hid (rIsDate_any (a / 86400) w)
  by_cases h2 : a / 86400 ≤ 99999
  · have hv := Lib.hid (dy_yes a ⟨h0, h1, h2⟩)
    have hdd := Lib.hid (decide_eq_true (show 0 ≤ a / 86400 ∧ a / 86400 ≤ 99999 by omega))
    go_enter Tryd.func23, Tryd.ntmps23
    go_wp2_with fail
    refine hid.out.mono ?_
    rintro e w' ⟨rfl, rfl⟩
    rw [hdd.out]
    go_wp2_with fail
    go_ret2
    exact ⟨by rw [hv.out]; rfl, rfl⟩
  · have hv := Lib.hid (dy_no a (fun h => h2 h.2.2))
    have hdd := Lib.hid (decide_eq_false (show ¬ (0 ≤ a / 86400 ∧ a / 86400 ≤ 99999) by omega))
    go_enter Tryd.func23, Tryd.ntmps23
    go_wp2_with fail
    refine hid.out.mono ?_
    rintro e w' ⟨rfl, rfl⟩
    rw [hdd.out]
    go_wp2_with fail
    go_ret2
    exact ⟨by rw [hv.out]; rfl, rfl⟩
end Go.Proofs.YtijceaapfbpfcaaDoor
