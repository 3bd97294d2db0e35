/- The walk of CalendarDates. -/
import Derived.Test.YtijceaapfbpfcaaDoorAwake
import Derived.Test.YtijceaapfbpfcaaDoorParse
namespace Go.Proofs.YtijceaapfbpfcaaDoor
set_option linter.unusedVariables false
open Go.RowKit

theorem d1_nat (x : Nat) : ((d1 x).toNat : Int) = 48 + (x % 10 : Nat) := by
  unfold d1; rw [UInt8.toNat_ofNat_of_lt' (show 48 + x % 10 < 256 by omega)]; omega
theorem par_fmt (a b c : Nat) (ha : a < 10000) (hb : b < 100) (hc : c < 100) :
    parV ⟨(fmtL a b c).toArray⟩ = .tuple #[.int .i64 (ofN a b c), .int .i64 (ofE a b c)] := by
  have hl : fmtL (a : Int) b c = [d1 (a / 1000), d1 (a / 100), d1 (a / 10), d1 a, 45, d1 (b / 10), d1 b, 45, d1 (c / 10), d1 c] := by
    unfold fmtL dig4 dig2; simp
  rw [hl]
  have k0 := d1_nat (a / 1000)
  have k1 := d1_nat (a / 100)
  have k2 := d1_nat (a / 10)
  have k3 := d1_nat a
  have k5 := d1_nat (b / 10)
  have k6 := d1_nat b
  have k8 := d1_nat (c / 10)
  have k9 := d1_nat c
  generalize d1 (a / 1000) = x0 at *
  generalize d1 (a / 100) = x1 at *
  generalize d1 (a / 10) = x2 at *
  generalize d1 a = x3 at *
  generalize d1 (b / 10) = x5 at *
  generalize d1 b = x6 at *
  generalize d1 (c / 10) = x8 at *
  generalize d1 c = x9 at *
  have c0 : chr ⟨[x0, x1, x2, x3, 45, x5, x6, 45, x8, x9].toArray⟩ 0 = x0.toNat := rfl
  have c1 : chr ⟨[x0, x1, x2, x3, 45, x5, x6, 45, x8, x9].toArray⟩ 1 = x1.toNat := rfl
  have c2 : chr ⟨[x0, x1, x2, x3, 45, x5, x6, 45, x8, x9].toArray⟩ 2 = x2.toNat := rfl
  have c3 : chr ⟨[x0, x1, x2, x3, 45, x5, x6, 45, x8, x9].toArray⟩ 3 = x3.toNat := rfl
  have c4 : chr ⟨[x0, x1, x2, x3, 45, x5, x6, 45, x8, x9].toArray⟩ 4 = 45 := rfl
  have c5 : chr ⟨[x0, x1, x2, x3, 45, x5, x6, 45, x8, x9].toArray⟩ 5 = x5.toNat := rfl
  have c6 : chr ⟨[x0, x1, x2, x3, 45, x5, x6, 45, x8, x9].toArray⟩ 6 = x6.toNat := rfl
  have c7 : chr ⟨[x0, x1, x2, x3, 45, x5, x6, 45, x8, x9].toArray⟩ 7 = 45 := rfl
  have c8 : chr ⟨[x0, x1, x2, x3, 45, x5, x6, 45, x8, x9].toArray⟩ 8 = x8.toNat := rfl
  have c9 : chr ⟨[x0, x1, x2, x3, 45, x5, x6, 45, x8, x9].toArray⟩ 9 = x9.toNat := rfl
  have hsz : (ByteArray.mk [x0, x1, x2, x3, 45, x5, x6, 45, x8, x9].toArray).size = 10 := rfl
  have hY : parY ⟨[x0, x1, x2, x3, 45, x5, x6, 45, x8, x9].toArray⟩ = (a : Int) := by
    unfold parY n4; rw [c0, c1, c2, c3, k0, k1, k2, k3]; omega
  have hM : parM ⟨[x0, x1, x2, x3, 45, x5, x6, 45, x8, x9].toArray⟩ = (b : Int) := by
    unfold parM n2; rw [c5, c6, k5, k6]; omega
  have hD : parD ⟨[x0, x1, x2, x3, 45, x5, x6, 45, x8, x9].toArray⟩ = (c : Int) := by
    unfold parD n2; rw [c8, c9, k8, k9]; omega
  rw [parV_ok _ hsz (by unfold parOK isD; rw [c0, c1, c2, c3, c4, c5, c6, c7, c8, c9]; omega), hY, hM, hD]
theorem par_reads (n y m d : Int) (h : Reads n y m d) (hn : n ≤ 99999) : parV ⟨(fmtL y m d).toArray⟩ = .tuple #[.int .i64 n, .int .i64 0] := by
  have hy := h.y_le hn
  have h' := h
  obtain ⟨h1, h2, h3, h4, h5, h6⟩ := h'
  have hb := ml_bd y m
  obtain ⟨a, rfl⟩ : ∃ a : Nat, y = a := ⟨y.toNat, by omega⟩
  obtain ⟨b, rfl⟩ : ∃ b : Nat, m = b := ⟨m.toNat, by omega⟩
  obtain ⟨c, rfl⟩ : ∃ c : Nat, d = c := ⟨d.toNat, by omega⟩
  rw [par_fmt a b c (by omega) (by omega) (by omega), ofYes _ _ _ ⟨h1, hy, h2, h3, h4, h5, by omega⟩, h6]
theorem of_reads (n y m d : Int) (h : Reads n y m d) (hn : n ≤ 99999) : Value.tuple #[.int .i64 (ofN y m d), .int .i64 (ofE y m d)] = .tuple #[.int .i64 n, .int .i64 0] := by
  have hy := h.y_le hn
  obtain ⟨h1, h2, h3, h4, h5, h6⟩ := h
  rw [ofYes _ _ _ ⟨h1, hy, h2, h3, h4, h5, by omega⟩, h6]
theorem ml_12 (y : Int) : ml y 12 = 31 := by unfold ml ml0; simp
theorem ml_1 (y m : Int) : 1 ≤ ml y m := by have := ml_bd y m; omega
/-- The date behind a date. -/
theorem reads_next (n y m d : Int) (h : Reads n y m d) :
    (d < ml y m ∧ Reads (n + 1) y m (d + 1)) ∨ (m < 12 ∧ 28 ≤ d ∧ Reads (n + 1) y (m + 1) 1) ∨ (m = 12 ∧ d = 31 ∧ Reads (n + 1) (y + 1) 1 1) := by
  obtain ⟨h1, h2, h3, h4, h5, h6⟩ := h
  have hb := ml_bd y m
  have hs := cum_succ y m h2
  rcases Int.lt_or_eq_of_le h5 with c | c
  · exact .inl ⟨c, h1, h2, h3, by omega, by omega, by omega⟩
  · rcases Int.lt_or_eq_of_le h3 with e | e
    · exact .inr (.inl ⟨e, by omega, h1, by omega, by omega, by omega, ml_1 _ _, by omega⟩)
    · subst e
      have h13 := cum_13 y
      rw [show (13 : Int) = 12 + 1 from rfl, hs] at h13
      have hy := dby_succ y h1
      have h31 := ml_12 y
      exact .inr (.inr ⟨rfl, by omega, by omega, by omega, by omega, by omega, ml_1 _ _, by rw [cum_1]; omega⟩)
theorem fmt_size (y m d : Int) : (ByteArray.mk (fmtL y m d).toArray).size = 10 := rfl
set_option maxRecDepth 100000 in
set_option maxHeartbeats 1600000 in
theorem calendarDates_walk (w : World) (hm : MD w) (ht : TabW w) (n : Int) :
    Calls Tryd.prog 7 #[.int .i64 n] w fun e w' => e = .returned (.bool true) ∧ Below w.heap.size w w' := by
  have hmh := Lib.hid hm
  have hth := Lib.hid ht
  by_cases h : 0 ≤ n ∧ n ≤ 99999
  · obtain ⟨h0, h1⟩ := h
    clear hm ht
    go_enter Tryd.func7, Tryd.ntmps7
    go_wp2_with fail
    refine (split_yes n w h0 h1 hmh.out).mono ?_
    rintro e w' ⟨v, rfl, ⟨y, m, d, rfl, hr, hy3⟩, rfl⟩
    have HR := Lib.hid hr
    have hof := Lib.hid (of_reads n y m d hr h1)
    have hpar := Lib.hid (par_reads n y m d hr h1)
    obtain ⟨hy0, hm1, hm2, hd1, hd2, hrest⟩ := hr
    have hmb := ml_bd y m
    have hd31 : d ≤ 31 := by omega
    clear hrest hd2 hmb
    go_wp2_with fail
    refine (of_any y m d w hmh.out).mono ?_
    rintro e w' ⟨rfl, rfl⟩
    rw [hof.out]
    go_wp2_with fail
    refine (format_yes n w h0 h1 hmh.out hth.out).mono ?_
    rintro e w1 ⟨y3, m3, d3, rfl, hr3, hb1⟩
    obtain ⟨rfl, rfl, rfl⟩ := HR.out.one hr3
    have HB1 := Lib.hid hb1
    clear hr3 hb1
    go_wp2_with fail
    refine (parse_any _ w1 (by rw [fmt_size]; omega) (hmh.out.below HB1.out)).mono ?_
    rintro e w2 ⟨rfl, hb2⟩
    have HB2 := Lib.hid (below2 HB1.out hb2)
    clear hb2
    rw [hpar.out]
    by_cases hl : n = 99999
    · have hll : (n == 99999) = true := beq_iff_eq.2 hl
      clear hl
      go_wp2_with fail
      refine (awake_any w2 (hmh.out.below HB2.out) (hth.out.below HB2.out)).mono ?_
      rintro e w5 ⟨rfl, hb5⟩
      go_wp2_with fail
      go_ret
      exact ⟨rfl, below2 HB2.out hb5⟩
    · have hll : (n == 99999) = false := beq_eq_false_iff_ne.2 hl
      have hl1 : n + 1 ≤ 99999 := by omega
      have hl2 : n < 99999 := by omega
      clear hl
      have w1e := Lib.hid (wkd_yes n ⟨h0, h1⟩)
      have w2e := Lib.hid (wkd_yes (n + 1) ⟨by omega, hl1⟩)
      have hwb : 0 ≤ wkd n ∧ wkd n ≤ 6 := by rw [w1e.out]; omega
      have hww : (wkd (n + 1) == (wkd n + 1) % 7) = true := beq_iff_eq.2 (by rw [w1e.out, w2e.out]; omega)
      obtain ⟨hwb0, hwb1⟩ := hwb
      go_wp2_with fail
      refine (split_yes (n + 1) w2 (by omega) hl1 (hmh.out.below HB2.out)).mono ?_
      rintro e w' ⟨v, rfl, ⟨p, q, r, rfl, hr2, hp3⟩, rfl⟩
      rcases reads_next n y m d HR.out with ⟨hq1, hq2⟩ | ⟨hq0, hq1, hq2⟩ | ⟨rfl, rfl, hq2⟩
      · obtain ⟨rfl, rfl, rfl⟩ := hr2.one hq2
        clear hq2 hq1 hr2
        go_wp2_with fail
        refine (weekday_any (n + 1) w2).mono ?_
        rintro e w' ⟨rfl, rfl⟩
        go_wp2_with fail
        refine (weekday_any n w2).mono ?_
        rintro e w' ⟨rfl, rfl⟩
        go_wp2_with fail
        refine (awake_any w2 (hmh.out.below HB2.out) (hth.out.below HB2.out)).mono ?_
        rintro e w5 ⟨rfl, hb5⟩
        go_wp2_with fail
        go_ret
        exact ⟨rfl, below2 HB2.out hb5⟩
      · obtain ⟨rfl, rfl, rfl⟩ := hr2.one hq2
        clear hq2 hr2
        have t1 : (m + 1 == m) = false := beq_eq_false_iff_ne.2 (by omega)
        go_wp2_with fail
        refine (weekday_any (n + 1) w2).mono ?_
        rintro e w' ⟨rfl, rfl⟩
        go_wp2_with fail
        refine (weekday_any n w2).mono ?_
        rintro e w' ⟨rfl, rfl⟩
        go_wp2_with fail
        refine (awake_any w2 (hmh.out.below HB2.out) (hth.out.below HB2.out)).mono ?_
        rintro e w5 ⟨rfl, hb5⟩
        go_wp2_with fail
        go_ret
        exact ⟨rfl, below2 HB2.out hb5⟩
      · obtain ⟨rfl, rfl, rfl⟩ := hr2.one hq2
        clear hq2 hr2
        have t1 : (y + 1 == y) = false := beq_eq_false_iff_ne.2 (by omega)
        go_wp2_with fail
        refine (weekday_any (n + 1) w2).mono ?_
        rintro e w' ⟨rfl, rfl⟩
        go_wp2_with fail
        refine (weekday_any n w2).mono ?_
        rintro e w' ⟨rfl, rfl⟩
        go_wp2_with fail
        refine (awake_any w2 (hmh.out.below HB2.out) (hth.out.below HB2.out)).mono ?_
        rintro e w5 ⟨rfl, hb5⟩
        go_wp2_with fail
        go_ret
        exact ⟨rfl, below2 HB2.out hb5⟩
  · have hn := Lib.hid h
    have hwn := Lib.hid (wkd_no n h)
    have hA := Lib.hid (awake_any w hm ht)
    clear hm ht
    have key : n < 0 ∨ (0 ≤ n ∧ 99999 < n) := by omega
    clear h
    rcases key with hk | ⟨hk0, hk⟩
    all_goals
      go_enter Tryd.func7, Tryd.ntmps7
      go_wp2_with fail
      refine (split_no n w hn.out).mono ?_
      rintro e w' ⟨rfl, rfl⟩
      go_wp2_with fail
      refine (format_no n w hn.out).mono ?_
      rintro e w' ⟨rfl, rfl⟩
      go_wp2_with fail
      refine (weekday_any n w).mono ?_
      rintro e w' ⟨rfl, rfl⟩
      rw [hwn.out]
      go_wp2_with fail
      refine hA.out.mono ?_
      rintro e w5 ⟨rfl, hb5⟩
      go_wp2_with fail
      go_ret
      exact ⟨rfl, hb5⟩
end Go.Proofs.YtijceaapfbpfcaaDoor
