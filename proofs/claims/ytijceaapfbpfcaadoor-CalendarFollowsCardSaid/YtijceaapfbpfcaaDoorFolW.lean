/- The walks of Add and of CalendarFollows. -/
import Derived.Test.YtijceaapfbpfcaaDoorAwake
import Derived.Test.YtijceaapfbpfcaaDoorFol
namespace Go.Proofs.YtijceaapfbpfcaaDoor
set_option linter.unusedVariables false
open Go.RowKit

def AddC (l : List Int) (d : Int) (n : Nat) (w : World) (e : Ending) (w' : World) : Prop := w = w' ∧ ∃ x : Int, Nth l d n x ∧ e = .returned (.tuple #[.int .i64 x, .int .i64 0])
set_option maxHeartbeats 800000 in
theorem add_cal (bc : Nat) (l : List Int) (d : Int) (n : Nat) (w : World) (hc : CalW w bc l) (hl : l.length ≤ 400) (h0 : 0 ≤ d) (h1 : d ≤ 97999) (hn0 : 1 ≤ n) (hn : n ≤ 260) :
    Calls Tryd.prog 25 #[.pointer (some ⟨bc, 0, none⟩), .int .i64 d, .int .i64 n] w (AddC l d n w) := by
  have hid := Lib.hid (isDate_any d w)
  have hdd := Lib.hid (decide_eq_true (show 0 ≤ d ∧ d ≤ 99999 by omega))
  have hnx := Lib.hid (fun x a b => next_yes bc l x w hc a b)
  have hnz : ((n : Int) == 0) = false := beq_eq_false_iff_ne.2 (by omega)
  clear hc
  go_enter Tryd.func25, Tryd.ntmps25
  go_wp2_with fail
  refine hid.out.mono ?_
  rintro e w' ⟨rfl, rfl⟩
  rw [hdd.out]
  go_wp2_with fail
  go_loop [1, 31] (fun t i => ∃ (k : Nat) (x : Int), k ≤ n ∧ i = .int .i64 k ∧ t = .int .i64 x ∧ Hid (Nth l d k x)) (fun _ i => n - (intOf i).toNat)
  case atStart => exact ⟨0, d, by omega, rfl, rfl, Lib.hid (nth_zero l d)⟩
  case round =>
    obtain ⟨k, x, hk, rfl, rfl, hN⟩ := hrel
    have hx1 := hN.out.1
    have hx2 := hN.out.2.1
    by_cases hlt : k < n
    · go_wp2_with fail
      refine (hnx.out (x + 1) (by omega) (by omega)).mono ?_
      rintro e w' ⟨rfl, h⟩
      rcases h with ⟨y, hy1, hy2, hy3, hy4, rfl⟩ | ⟨hno, rfl⟩
      · have HY := Lib.hid (nth_next l d k x y hl h0 h1 (by omega) hN.out hy1 hy3 hy4)
        clear hy3 hy4
        go_wp2_with fail
        go_round
        case rel => exact ⟨k + 1, y, by omega, by go_num, rfl, HY⟩
        case measure => simp [intOf]; omega
      · exact (nth_some l d k x hl h0 h1 (by omega) hN.out hno).elim
    · obtain rfl : k = n := by omega
      go_wp2_with fail
      go_ret2
      exact ⟨rfl, x, hN.out, rfl⟩
theorem next_of (l : List Int) (d : Int) (k : Nat) (x y : Int) (hl : l.length ≤ 400) (h0 : 0 ≤ d) (h1 : d ≤ 97999) (hk : k + 1 < 260) (h : Nth l d (k + 1) x) (h' : Nth l d (k + 2) y) (z : Int)
    (hz : x + 1 ≤ z) (hb : bus l z = true) (hn : ∀ u, x + 1 ≤ u → u < z → bus l u = false) : z = y :=
  nth_one l d (k + 1) z y (nth_next l d (k + 1) x z hl h0 h1 hk h hz hb hn) h'
set_option maxRecDepth 100000 in
set_option maxHeartbeats 1600000 in
theorem follows_go (w : World) (hm : MD w) (ht : TabW w) (A : Option Addr) (cap : Nat) (l : List Int) (hr : IsInts w A l) (hl : l.length ≤ maxLen) (d : Int) (n m : Nat) (hn : n ≤ 255) (hm2 : m ≤ 255)
    (hd0 : 0 ≤ d) (hd1 : d ≤ 97999) (hok : okHol l = true) :
    Calls Tryd.prog 6 #[.slice A l.length cap, .int .i64 d, .int .u8 n, .int .u8 m] w fun e w' => e = .returned (.bool true) ∧ Below w.heap.size w w' := by
  have hmh := Lib.hid hm
  have hth := Lib.hid ht
  have hnew := Lib.hid (new_any A cap l w hr hl)
  have h400 := (of_decide_eq_true hok).1
  have HOK := Lib.hid hok
  clear hm ht hr hok
  unfold maxLen at hl
  go_enter Tryd.func6, Tryd.ntmps6
  go_wp2_with fail
  refine hnew.out.mono ?_
  rintro e w1 ⟨hb1, h⟩
  have HB := Lib.hid hb1
  clear hb1
  rcases h with ⟨_, bc, rfl, hcal⟩ | ⟨hno, _⟩
  case inr => rw [HOK.out] at hno; cases hno
  have HC := Lib.hid hcal
  clear hcal
  go_wp2_with fail
  refine (add_cal bc l d (n + 1) w1 HC.out h400 hd0 hd1 (by omega) (by omega)).mono ?_
  rintro e w' ⟨rfl, a, ha, rfl⟩
  have HA := Lib.hid ha
  clear ha
  go_wp2_with fail
  refine (add_cal bc l d (n + 2) w1 HC.out h400 hd0 hd1 (by omega) (by omega)).mono ?_
  rintro e w' ⟨rfl, b, hb, rfl⟩
  have HBb := Lib.hid hb
  clear hb
  have a1 := nth_pos l d n a HA.out
  have a2 := HA.out.2.1
  have b1 := nth_lt l d n a b HA.out HBb.out
  have b2 := HBb.out.2.1
  have ba := Lib.hid (HA.out.2.2.2 (by omega))
  have bb := Lib.hid (HBb.out.2.2.2 (by omega))
  have ca := Lib.hid (nth_count l d n a HA.out)
  have cb := Lib.hid (nth_between l d n a b HA.out HBb.out)
  have cs := Lib.hid (cnt_split l d (d + m) (a + 300) (by omega) (by omega))
  have cl1 := cntN_le l d (d + m - d).toNat
  have cl2 := cntN_le l (d + m) (a + 300 - (d + m)).toNat
  go_wp2_with fail
  refine (next_yes bc l (a + 1) w1 HC.out (by omega) (by omega)).mono ?_
  rintro e w' ⟨rfl, h⟩
  rcases h with ⟨y, hy1, hy2, hy3, hy4, rfl⟩ | ⟨hno, rfl⟩
  case inr =>
    exact (nth_some l d (n + 1) a h400 hd0 hd1 (by omega) HA.out hno).elim
  obtain rfl := next_of l d n a b h400 hd0 hd1 (by omega) HA.out HBb.out y hy1 hy3 hy4
  clear hy3 hy4
  go_wp2_with fail
  refine (business_any bc l a w1 HC.out).mono ?_
  rintro e w' ⟨rfl, rfl⟩
  rw [ba.out]
  go_wp2_with fail
  refine (business_any bc l y w1 HC.out).mono ?_
  rintro e w' ⟨rfl, rfl⟩
  rw [bb.out]
  go_wp2_with fail
  refine (count_yes bc l (d + 1) a w1 HC.out (by omega) (by omega) (by omega) (by omega)).mono ?_
  rintro e w' ⟨rfl, rfl⟩
  rw [ca.out]
  go_wp2_with fail
  refine (count_yes bc l a y w1 HC.out (by omega) (by omega) (by omega) (by omega)).mono ?_
  rintro e w' ⟨rfl, rfl⟩
  rw [cb.out]
  go_wp2_with fail
  refine (count_yes bc l d (d + m) w1 HC.out (by omega) (by omega) (by omega) (by omega)).mono ?_
  rintro e w' ⟨rfl, rfl⟩
  go_wp2_with fail
  refine (count_yes bc l (d + m) (a + 300) w1 HC.out (by omega) (by omega) (by omega) (by omega)).mono ?_
  rintro e w' ⟨rfl, rfl⟩
  have k1 : cnt l d (d + m) ≤ 1000 := by unfold cnt; omega
  have k2 : cnt l (d + m) (a + 300) ≤ 10000 := by unfold cnt; omega
  have hcs : ((cnt l d (d + m) : Int) + (cnt l (d + m) (a + 300) : Int) == (cnt l d (a + 300) : Int)) = true := beq_iff_eq.2 (by have := cs.out; omega)
  generalize cnt l d (d + m) = k3 at *
  generalize cnt l (d + m) (a + 300) = k4 at *
  go_wp2_with fail
  refine (count_yes bc l d (a + 300) w1 HC.out (by omega) (by omega) (by omega) (by omega)).mono ?_
  rintro e w' ⟨rfl, rfl⟩
  generalize cnt l d (a + 300) = k5 at *
  go_wp2_with fail
  refine (awake_any w1 (hmh.out.below HB.out) (hth.out.below HB.out)).mono ?_
  rintro e w5 ⟨rfl, hb5⟩
  go_wp2_with fail
  go_ret
  exact ⟨rfl, below2 HB.out hb5⟩
end Go.Proofs.YtijceaapfbpfcaaDoor
