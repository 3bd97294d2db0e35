/- The walks of CalendarParts, CalendarMonths and CalendarTimes. -/
import Derived.Test.YtijceaapfbpfcaaDoorAwake
import Derived.Test.YtijceaapfbpfcaaDoorWalk5
namespace Go.Proofs.YtijceaapfbpfcaaDoor
set_option linter.unusedVariables false
open Go.RowKit

set_option maxHeartbeats 1600000 in
theorem calendarParts_walk (w : World) (hm : MD w) (ht : TabW w) (y m d n : Int) :
    Calls Tryd.prog 3 #[.int .i64 y, .int .i64 m, .int .i64 d, .int .i64 n] w fun e w' => e = .returned (.bool true) ∧ Below w.heap.size w w' := by
  have hmh := Lib.hid hm
  have hth := Lib.hid ht
  have hO := Lib.hid (of_any y m d w hm)
  have hRO := Lib.hid (rof_any y m d w)
  by_cases h : 0 ≤ n ∧ n ≤ 99999
  · obtain ⟨h0, h1⟩ := h
    clear hm ht
    go_enter Tryd.func3, Tryd.ntmps3
    go_wp2_with fail
    refine hO.out.mono ?_
    rintro e w' ⟨rfl, rfl⟩
    go_wp2_with fail
    refine hRO.out.mono ?_
    rintro e w1 ⟨rfl, hb1⟩
    have HB1 := Lib.hid hb1
    clear hb1
    go_wp2_with fail
    refine (split_yes n w1 h0 h1 (hmh.out.below HB1.out)).mono ?_
    rintro e w' ⟨v, rfl, ⟨y1, m1, d1, rfl, hr1, hy1⟩, rfl⟩
    have HR1 := Lib.hid hr1
    clear hr1 hy1
    go_wp2_with fail
    refine (rsplit_yes n w1 h0 h1).mono ?_
    rintro e w2 ⟨v, rfl, ⟨y2, m2, d2, rfl, hr2, hy2⟩, hb2⟩
    have HB2 := Lib.hid (below2 HB1.out hb2)
    clear hb2 hy2
    obtain ⟨rfl, rfl, rfl⟩ := HR1.out.one hr2
    clear hr2
    go_wp2_with fail
    refine (start_any n _).mono ?_
    rintro e w' ⟨rfl, rfl⟩
    go_wp2_with fail
    refine (rstart_any n _).mono ?_
    rintro e w' ⟨rfl, rfl⟩
    go_wp2_with fail
    refine (weekday_any n _).mono ?_
    rintro e w' ⟨rfl, rfl⟩
    go_wp2_with fail
    refine (rweekday_any n _).mono ?_
    rintro e w' ⟨rfl, rfl⟩
    go_wp2_with fail
    refine (format_yes n w2 h0 h1 (hmh.out.below HB2.out) (hth.out.below HB2.out)).mono ?_
    rintro e w3 ⟨y3, m3, d3, rfl, hr3, hb3⟩
    have HB3 := Lib.hid (below2 HB2.out hb3)
    clear hb3
    obtain ⟨rfl, rfl, rfl⟩ := HR1.out.one hr3
    clear hr3
    go_wp2_with fail
    refine (rformat_yes n w3 h0 h1).mono ?_
    rintro e w4 ⟨y3, m3, d3, rfl, hr3, hb3⟩
    have HB4 := Lib.hid (below2 HB3.out hb3)
    clear hb3
    obtain ⟨rfl, rfl, rfl⟩ := HR1.out.one hr3
    clear hr3
    go_wp2_with fail
    refine (awake_any w4 (hmh.out.below HB4.out) (hth.out.below HB4.out)).mono ?_
    rintro e w5 ⟨rfl, hb5⟩
    go_wp2_with fail
    go_ret
    exact ⟨rfl, below2 HB4.out hb5⟩
  · have hn := Lib.hid h
    clear hm ht h
    go_enter Tryd.func3, Tryd.ntmps3
    go_wp2_with fail
    refine hO.out.mono ?_
    rintro e w' ⟨rfl, rfl⟩
    go_wp2_with fail
    refine hRO.out.mono ?_
    rintro e w1 ⟨rfl, hb1⟩
    have HB1 := Lib.hid hb1
    clear hb1
    go_wp2_with fail
    refine (split_no n w1 hn.out).mono ?_
    rintro e w' ⟨rfl, rfl⟩
    go_wp2_with fail
    refine (rsplit_no n w1 hn.out).mono ?_
    rintro e w' ⟨rfl, rfl⟩
    go_wp2_with fail
    refine (start_any n _).mono ?_
    rintro e w' ⟨rfl, rfl⟩
    go_wp2_with fail
    refine (rstart_any n _).mono ?_
    rintro e w' ⟨rfl, rfl⟩
    go_wp2_with fail
    refine (weekday_any n _).mono ?_
    rintro e w' ⟨rfl, rfl⟩
    go_wp2_with fail
    refine (rweekday_any n _).mono ?_
    rintro e w' ⟨rfl, rfl⟩
    go_wp2_with fail
    refine (format_no n w1 hn.out).mono ?_
    rintro e w' ⟨rfl, rfl⟩
    go_wp2_with fail
    refine (rformat_no n w1 hn.out).mono ?_
    rintro e w' ⟨rfl, rfl⟩
    go_wp2_with fail
    refine (awake_any w1 (hmh.out.below HB1.out) (hth.out.below HB1.out)).mono ?_
    rintro e w5 ⟨rfl, hb5⟩
    go_wp2_with fail
    go_ret
    exact ⟨rfl, below2 HB1.out hb5⟩
set_option maxHeartbeats 1600000 in
theorem calendarMonths_walk (w : World) (hm : MD w) (ht : TabW w) (n k : Int) :
    Calls Tryd.prog 4 #[.int .i64 n, .int .i64 k] w fun e w' => e = .returned (.bool true) ∧ Below w.heap.size w w' := by
  have hmh := Lib.hid hm
  have hth := Lib.hid ht
  by_cases h : 0 ≤ n ∧ n ≤ 99999 ∧ -10000 ≤ k ∧ k ≤ 10000
  · obtain ⟨h0, h1, h2, h3⟩ := h
    clear hm ht
    go_enter Tryd.func4, Tryd.ntmps4
    go_wp2_with fail
    refine (addMonths_in n k w h0 h1 h2 h3 hmh.out).mono ?_
    rintro e w' ⟨y1, m1, d1, rfl, hr1, rfl⟩
    have HR1 := Lib.hid hr1
    clear hr1
    go_wp2_with fail
    refine (raddMonths_in n k w h0 h1 h2 h3).mono ?_
    rintro e w2 ⟨y2, m2, d2, rfl, hr2, hb2⟩
    have HB2 := Lib.hid hb2
    clear hb2
    obtain ⟨rfl, rfl, rfl⟩ := HR1.out.one hr2
    clear hr2
    go_wp2_with fail
    refine (awake_any w2 (hmh.out.below HB2.out) (hth.out.below HB2.out)).mono ?_
    rintro e w5 ⟨rfl, hb5⟩
    go_wp2_with fail
    go_ret
    exact ⟨rfl, below2 HB2.out hb5⟩
  · have hn := Lib.hid h
    clear hm ht h
    go_enter Tryd.func4, Tryd.ntmps4
    go_wp2_with fail
    refine (addMonths_out n k w hn.out).mono ?_
    rintro e w' ⟨rfl, rfl⟩
    go_wp2_with fail
    refine (raddMonths_out n k w hn.out).mono ?_
    rintro e w' ⟨rfl, rfl⟩
    go_wp2_with fail
    refine (awake_any w hmh.out hth.out).mono ?_
    rintro e w5 ⟨rfl, hb5⟩
    go_wp2_with fail
    go_ret
    exact ⟨rfl, hb5⟩
set_option maxHeartbeats 1600000 in
theorem calendarTimes_walk (w : World) (hm : MD w) (ht : TabW w) (a : Int) :
    Calls Tryd.prog 5 #[.int .i64 a] w fun e w' => e = .returned (.bool true) ∧ Below w.heap.size w w' := by
  have hA := Lib.hid (awake_any w hm ht)
  have hd := Lib.hid (day_any a w)
  have hrd := Lib.hid (rday_any a w)
  clear hm ht
  by_cases h : 0 ≤ a ∧ a ≤ 1099511627776 ∧ a / 86400 ≤ 99999
  · have hv := Lib.hid (dy_yes a h)
    obtain ⟨h0, h1, h2⟩ := h
    have hst := Lib.hid (st_yes (a / 86400) (by omega))
    have hs := Lib.hid (start_any (a / 86400) w)
    have e1 : a / 86400 * 86400 + a % 86400 = a := by omega
    have HE := Lib.hid e1
    clear e1
    have hx0 : 0 ≤ a / 86400 := by omega
    have hs0 : 0 ≤ a % 86400 := by omega
    have hs1 : a % 86400 < 86400 := by omega
    generalize hq : a / 86400 = q at *
    generalize hr : a % 86400 = r at *
    clear hq hr
    go_enter Tryd.func5, Tryd.ntmps5
    go_wp2_with fail
    refine hd.out.mono ?_
    rintro e w' ⟨rfl, rfl⟩
    rw [hv.out]
    go_wp2_with fail
    refine hrd.out.mono ?_
    rintro e w' ⟨rfl, rfl⟩
    rw [hv.out]
    go_wp2_with fail
    refine hs.out.mono ?_
    rintro e w' ⟨rfl, rfl⟩
    rw [hst.out]
    have e1 := HE.out
    go_wp2_with fail
    refine hA.out.mono ?_
    rintro e w5 ⟨rfl, hb5⟩
    go_wp2_with fail
    go_ret
    exact ⟨rfl, hb5⟩
  · have hv := Lib.hid (dy_no a h)
    clear h
    go_enter Tryd.func5, Tryd.ntmps5
    go_wp2_with fail
    refine hd.out.mono ?_
    rintro e w' ⟨rfl, rfl⟩
    rw [hv.out]
    go_wp2_with fail
    refine hrd.out.mono ?_
    rintro e w' ⟨rfl, rfl⟩
    rw [hv.out]
    go_wp2_with fail
    refine hA.out.mono ?_
    rintro e w5 ⟨rfl, hb5⟩
    go_wp2_with fail
    go_ret
    exact ⟨rfl, hb5⟩
end Go.Proofs.YtijceaapfbpfcaaDoor
