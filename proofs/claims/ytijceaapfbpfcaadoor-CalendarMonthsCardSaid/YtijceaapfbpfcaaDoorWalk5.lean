/- The walks of AddMonths. -/
import Derived.Test.YtijceaapfbpfcaaDoorWalk4
namespace Go.Proofs.YtijceaapfbpfcaaDoor
set_option linter.unusedVariables false
open Go.RowKit

def amK (y m k : Int) : Int := 12 * y + m - 1 + k
def okYear (y : Int) : Bool := decide (1970 ≤ y ∧ y ≤ 2243)
def amN (y m d k : Int) : Int := if okYear (amK y m k / 12) then ofN (amK y m k / 12) (amK y m k % 12 + 1) (min d (ml (amK y m k / 12) (amK y m k % 12 + 1))) else 0
def amE (y m d k : Int) : Int := if okYear (amK y m k / 12) then ofE (amK y m k / 12) (amK y m k % 12 + 1) (min d (ml (amK y m k / 12) (amK y m k % 12 + 1))) else 4
def AmPost (n k : Int) (w : World) (e : Ending) (w' : World) : Prop := ∃ y m d : Int, e = .returned (.tuple #[.int .i64 (amN y m d k), .int .i64 (amE y m d k)]) ∧ Reads n y m d ∧ w = w'
def RAmPost (n k : Int) (w : World) (e : Ending) (w' : World) : Prop := ∃ y m d : Int, e = .returned (.tuple #[.int .i64 (amN y m d k), .int .i64 (amE y m d k)]) ∧ Reads n y m d ∧ Below w.heap.size w w'
theorem am_yes (y m d k : Int) (h : okYear (amK y m k / 12) = true) : Value.tuple #[.int .i64 (amN y m d k), .int .i64 (amE y m d k)] = .tuple #[.int .i64 (ofN (amK y m k / 12) (amK y m k % 12 + 1) (min d (ml (amK y m k / 12) (amK y m k % 12 + 1)))), .int .i64 (ofE (amK y m k / 12) (amK y m k % 12 + 1) (min d (ml (amK y m k / 12) (amK y m k % 12 + 1))))] := by
  unfold amN amE; rw [h]; rfl
theorem am_no (y m d k : Int) (h : okYear (amK y m k / 12) = false) : Value.tuple #[.int .i64 (amN y m d k), .int .i64 (amE y m d k)] = .tuple #[.int .i64 0, .int .i64 4] := by
  unfold amN amE; rw [h]; rfl
set_option maxHeartbeats 400000 in
theorem addMonths_out (n k : Int) (w : World) (h : ¬ (0 ≤ n ∧ n ≤ 99999 ∧ -10000 ≤ k ∧ k ≤ 10000)) :
    Calls Tryd.prog 20 #[.int .i64 n, .int .i64 k] w fun e w' => e = .returned (.tuple #[.int .i64 0, .int .i64 4]) ∧ w = w' := by
  have hid := Lib.hid (isDate_any n w)
  by_cases h1 : 0 ≤ n ∧ n ≤ 99999
  case neg =>
    have hdd := Lib.hid (decide_eq_false h1)
    clear h h1
    go_enter Tryd.func20, Tryd.ntmps20
    go_wp2_with fail
    refine hid.out.mono ?_
    rintro e w' ⟨rfl, rfl⟩
    rw [hdd.out]
    go_wp2_with fail
    go_ret2
    exact ⟨rfl, rfl⟩
  have hdd := Lib.hid (decide_eq_true h1)
  by_cases h2 : -10000 ≤ k
  case neg =>
    clear h h1
    go_enter Tryd.func20, Tryd.ntmps20
    go_wp2_with fail
    refine hid.out.mono ?_
    rintro e w' ⟨rfl, rfl⟩
    rw [hdd.out]
    go_wp2_with fail
    go_ret2
    exact ⟨rfl, rfl⟩
  have h3 : ¬ k ≤ 10000 := fun h3 => h ⟨h1.1, h1.2, h2, h3⟩
  clear h h1
  go_enter Tryd.func20, Tryd.ntmps20
  go_wp2_with fail
  refine hid.out.mono ?_
  rintro e w' ⟨rfl, rfl⟩
  rw [hdd.out]
  go_wp2_with fail
  go_ret2
  exact ⟨rfl, rfl⟩
set_option maxHeartbeats 400000 in
theorem raddMonths_out (n k : Int) (w : World) (h : ¬ (0 ≤ n ∧ n ≤ 99999 ∧ -10000 ≤ k ∧ k ≤ 10000)) :
    Calls Tryd.prog 21 #[.int .i64 n, .int .i64 k] w fun e w' => e = .returned (.tuple #[.int .i64 0, .int .i64 4]) ∧ w = w' := by
  have hid := Lib.hid (rIsDate_any n w)
  by_cases h1 : 0 ≤ n ∧ n ≤ 99999
  case neg =>
    have hdd := Lib.hid (decide_eq_false h1)
    clear h h1
    go_enter Tryd.func21, Tryd.ntmps21
    go_wp2_with fail
    refine hid.out.mono ?_
    rintro e w' ⟨rfl, rfl⟩
    rw [hdd.out]
    go_wp2_with fail
    go_ret2
    exact ⟨rfl, rfl⟩
  have hdd := Lib.hid (decide_eq_true h1)
  by_cases h2 : -10000 ≤ k
  case neg =>
    clear h h1
    go_enter Tryd.func21, Tryd.ntmps21
    go_wp2_with fail
    refine hid.out.mono ?_
    rintro e w' ⟨rfl, rfl⟩
    rw [hdd.out]
    go_wp2_with fail
    go_ret2
    exact ⟨rfl, rfl⟩
  have h3 : ¬ k ≤ 10000 := fun h3 => h ⟨h1.1, h1.2, h2, h3⟩
  clear h h1
  go_enter Tryd.func21, Tryd.ntmps21
  go_wp2_with fail
  refine hid.out.mono ?_
  rintro e w' ⟨rfl, rfl⟩
  rw [hdd.out]
  go_wp2_with fail
  go_ret2
  exact ⟨rfl, rfl⟩

set_option maxHeartbeats 1000000 in
theorem addMonths_in (n k : Int) (w : World) (h0 : 0 ≤ n) (h1 : n ≤ 99999) (h2 : -10000 ≤ k) (h3 : k ≤ 10000) (hm : MD w) : Calls Tryd.prog 20 #[.int .i64 n, .int .i64 k] w (AmPost n k w) := by
  have hid := Lib.hid (isDate_any n w)
  have hdd := Lib.hid (decide_eq_true (show 0 ≤ n ∧ n ≤ 99999 from ⟨h0, h1⟩))
  have hsp := Lib.hid (split_yes n w h0 h1 hm)
  have hmh := Lib.hid hm
  clear hm
  go_enter Tryd.func20, Tryd.ntmps20
  go_wp2_with fail
  refine hid.out.mono ?_
  rintro e w' ⟨rfl, rfl⟩
  rw [hdd.out]
  go_wp2_with fail
  refine hsp.out.mono ?_
  rintro e w' ⟨v, rfl, ⟨y, m, d, rfl, hr, hy3⟩, rfl⟩
  have hR := Lib.hid hr
  obtain ⟨hy0, hm1, hm2, hd1, hd2, hrest⟩ := hr
  have hmb := ml_bd y m
  clear hrest hsp
  have hkk := Lib.hid (show amK y m k = 12 * y + m - 1 + k from rfl)
  generalize hx : ml y m = lm at hd2 hmb
  clear hx
  by_cases hok : 1970 ≤ (12 * y + m - 1 + k) / 12 ∧ (12 * y + m - 1 + k) / 12 ≤ 2243
  · obtain ⟨hk1, hk2⟩ := hok
    have hyes := Lib.hid (am_yes y m d k (decide_eq_true ⟨by rw [hkk.out]; exact hk1, by rw [hkk.out]; exact hk2⟩))
    have hln := Lib.hid (lengthOf_any ((12 * y + m - 1 + k) / 12) ((12 * y + m - 1 + k) % 12 + 1) w (by omega) (by omega) (by omega) hmh.out)
    have hof := Lib.hid (fun d' => of_any ((12 * y + m - 1 + k) / 12) ((12 * y + m - 1 + k) % 12 + 1) d' w hmh.out)
    go_wp2_with fail
    refine hln.out.mono ?_
    rintro e w' ⟨rfl, rfl⟩
    go_wp2_with fail
    all_goals
      refine (hof.out _).mono ?_
      rintro e w' ⟨rfl, rfl⟩
      go_wp2_with fail
      go_ret2
      exact ⟨y, m, d, by rw [hyes.out, hkk.out]; first | (rw [Int.min_eq_right (by omega)]; rfl) | (rw [Int.min_eq_left (by omega)]; rfl), hR.out, rfl⟩
  · have hno := Lib.hid (am_no y m d k (decide_eq_false (by rw [hkk.out]; exact hok)))
    by_cases hk1 : 1970 ≤ (12 * y + m - 1 + k) / 12
    · have hk2 : ¬ (12 * y + m - 1 + k) / 12 ≤ 2243 := fun h => hok ⟨hk1, h⟩
      clear hok
      go_wp2_with fail
      go_ret2
      exact ⟨y, m, d, by rw [hno.out]; rfl, hR.out, rfl⟩
    · clear hok
      go_wp2_with fail
      go_ret2
      exact ⟨y, m, d, by rw [hno.out]; rfl, hR.out, rfl⟩

set_option maxHeartbeats 1000000 in
theorem raddMonths_in (n k : Int) (w : World) (h0 : 0 ≤ n) (h1 : n ≤ 99999) (h2 : -10000 ≤ k) (h3 : k ≤ 10000) : Calls Tryd.prog 21 #[.int .i64 n, .int .i64 k] w (RAmPost n k w) := by
  have hid := Lib.hid (rIsDate_any n w)
  have hdd := Lib.hid (decide_eq_true (show 0 ≤ n ∧ n ≤ 99999 from ⟨h0, h1⟩))
  have hsp := Lib.hid (rsplit_yes n w h0 h1)
  go_enter Tryd.func21, Tryd.ntmps21
  go_wp2_with fail
  refine hid.out.mono ?_
  rintro e w' ⟨rfl, rfl⟩
  rw [hdd.out]
  go_wp2_with fail
  refine hsp.out.mono ?_
  rintro e w1 ⟨v, rfl, ⟨y, m, d, rfl, hr, hy3⟩, hb1⟩
  have hR := Lib.hid hr
  have HB1 := Lib.hid hb1
  clear hb1
  obtain ⟨hy0, hm1, hm2, hd1, hd2, hrest⟩ := hr
  have hmb := ml_bd y m
  clear hrest hsp
  have hkk := Lib.hid (show amK y m k = 12 * y + m - 1 + k from rfl)
  have hcm := Lib.hid (show y * 12 + m - 1 + k = 12 * y + m - 1 + k from by omega)
  generalize hx : ml y m = lm at hd2 hmb
  clear hx
  by_cases hok : 1970 ≤ (12 * y + m - 1 + k) / 12 ∧ (12 * y + m - 1 + k) / 12 ≤ 2243
  · obtain ⟨hk1, hk2⟩ := hok
    have hyes := Lib.hid (am_yes y m d k (decide_eq_true ⟨by rw [hkk.out]; exact hk1, by rw [hkk.out]; exact hk2⟩))
    rw [← hcm.out] at hk1 hk2
    have hln := Lib.hid (fun W => days_any ((y * 12 + m - 1 + k) / 12) ((y * 12 + m - 1 + k) % 12 + 1) W (by omega) (by omega) (by omega))
    have hof := Lib.hid (fun d' W => rof_any ((y * 12 + m - 1 + k) / 12) ((y * 12 + m - 1 + k) % 12 + 1) d' W)
    by_cases hdl : d ≤ ml ((y * 12 + m - 1 + k) / 12) ((y * 12 + m - 1 + k) % 12 + 1)
    · go_wp2_with fail
      refine (hln.out _).mono ?_
      rintro e w2 ⟨rfl, hb2⟩
      go_wp2_with fail
      refine (hof.out _ _).mono ?_
      rintro e w3 ⟨rfl, hb3⟩
      go_wp2_with fail
      go_ret2
      exact ⟨y, m, d, by rw [hyes.out, hkk.out, ← hcm.out, Int.min_eq_left (by omega)]; rfl, hR.out, below2 (below2 HB1.out hb2) hb3⟩
    · go_wp2_with fail
      refine (hln.out _).mono ?_
      rintro e w2 ⟨rfl, hb2⟩
      go_wp2_with fail
      refine (hln.out _).mono ?_
      rintro e w3 ⟨rfl, hb3⟩
      go_wp2_with fail
      refine (hof.out _ _).mono ?_
      rintro e w4 ⟨rfl, hb4⟩
      go_wp2_with fail
      go_ret2
      exact ⟨y, m, d, by rw [hyes.out, hkk.out, ← hcm.out, Int.min_eq_right (by omega)]; rfl, hR.out, below2 (below2 (below2 HB1.out hb2) hb3) hb4⟩
  · have hno := Lib.hid (am_no y m d k (decide_eq_false (by rw [hkk.out]; exact hok)))
    by_cases hk1 : 23640 ≤ y * 12 + m - 1 + k
    · have hk2 : ¬ y * 12 + m - 1 + k ≤ 26927 := by omega
      clear hok
      go_wp2_with fail
      go_ret2
      exact ⟨y, m, d, by rw [hno.out]; rfl, hR.out, HB1.out⟩
    · clear hok
      go_wp2_with fail
      go_ret2
      exact ⟨y, m, d, by rw [hno.out]; rfl, hR.out, HB1.out⟩
end Go.Proofs.YtijceaapfbpfcaaDoor
