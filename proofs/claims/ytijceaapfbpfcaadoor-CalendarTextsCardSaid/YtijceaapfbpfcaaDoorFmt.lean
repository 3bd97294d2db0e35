/- The walks of Format: a date's text. -/
import Derived.Test.YtijceaapfbpfcaaDoorWalk4
import Derived.Test.YtijceaapfbpfcaaDoorShelf
import Derived.WalkSmall
namespace Go.Proofs.YtijceaapfbpfcaaDoor
set_option linter.unusedVariables false
open Go.RowKit Go.Sort

/-- The table of the powers of ten stands in its variable. -/
def TabW (w : World) : Prop := 1 < w.heap.size ∧ Lib.TabIs Tryd.prog w "internal/strconv.uint64pow10" .u64 Lib.pow10Tab
theorem TabW.below {w w' : World} (h : TabW w) (hb : Below w.heap.size w w') : TabW w' :=
  ⟨Nat.lt_of_lt_of_le h.1 hb.size, var?_below hb (show Tryd.prog.globalNamed "internal/strconv.uint64pow10" = some 1 by kernel_rfl) h.1 h.2⟩
def d1 (n : Nat) : UInt8 := UInt8.ofNat (48 + n % 10)
def dig2 (n : Nat) : List UInt8 := [d1 (n / 10), d1 n]
def dig4 (n : Nat) : List UInt8 := [d1 (n / 1000), d1 (n / 100), d1 (n / 10), d1 n]
theorem dec1 (n : Nat) (h : n < 10) : Lib.decDigits n = [d1 n] := by
  rw [Lib.decDigits, dif_pos h]; unfold d1; rw [Nat.mod_eq_of_lt h]
theorem dec2 (n : Nat) (h0 : 10 ≤ n) (h : n < 100) : Lib.decDigits n = dig2 n := by
  rw [Lib.decDigits, dif_neg (by omega), dec1 _ (by omega)]; rfl
theorem dec4 (n : Nat) (h0 : 1000 ≤ n) (h : n < 10000) : Lib.decDigits n = dig4 n := by
  rw [Lib.decDigits, dif_neg (by omega), Lib.decDigits, dif_neg (by omega), dec2 _ (by omega) (by omega)]
  unfold dig2 dig4 d1
  simp [Nat.div_div_eq_div_mul]
theorem below_grow (w : World) (k : Nat) (os : Array Obj) : Below w.heap.size w (grow (w.drewN k) os) :=
  ⟨rfl, rfl, rfl, by simp [grow], fun i hi => heap_grow_old (w.drewN k) os hi⟩
/-- The text of a number in ASCII digits, as a value. -/
def strL (l : List UInt8) : Value := .string ⟨l.toArray⟩
theorem app_L (a b : List UInt8) : (ByteArray.mk a.toArray) ++ (ByteArray.mk b.toArray) = ByteArray.mk (a ++ b).toArray := ByteArray.mk_append_mk a b
set_option maxHeartbeats 400000 in
theorem padded4 (n : Nat) (w : World) (h0 : 1000 ≤ n) (h1 : n < 10000) (ht : TabW w) :
    Calls Tryd.prog 37 #[.int .i64 n, .int .i64 4] w fun e w' => e = .returned (.string ⟨(dig4 n).toArray⟩) ∧ Below w.heap.size w w' := by
  have hi := Lib.hid (Tryd.strconv_Itoa n (by omega) (by omega) w ht.2)
  have hd := Lib.hid (show Lib.itoa (n : Int) = dig4 n by unfold Lib.itoa; rw [if_neg (by omega), Int.toNat_natCast, dec4 n h0 h1])
  have hsz : (ByteArray.mk (dig4 n).toArray).size = 4 := rfl
  clear ht
  go_enter Tryd.func37, Tryd.ntmps37
  go_wp2_with fail
  refine hi.out.mono ?_
  rintro e w' ⟨rfl, k, os, rfl⟩
  rw [hd.out]
  generalize hse : (ByteArray.mk (dig4 n).toArray) = s at hsz
  have hsh := Lib.hid hse
  clear hse
  have hb := Lib.hid (below_grow w k os)
  generalize grow (w.drewN k) os = w1 at hb
  go_wp2_with fail
  refine wp_loop_rounds 1 ?_
  rw [rounds_succ]
  go_wp2_with fail
  go_ret
  exact ⟨by first | rfl | (rw [hsh.out]; rfl), hb.out⟩
set_option maxHeartbeats 400000 in
theorem padded2 (n : Nat) (w : World) (h1 : n < 100) :
    Calls Tryd.prog 37 #[.int .i64 n, .int .i64 2] w fun e w' => e = .returned (.string ⟨(dig2 n).toArray⟩) ∧ w = w' := by
  have hi := Lib.hid (Tryd.strconv_Itoa_small n h1 w)
  by_cases h10 : n < 10
  · have hd := Lib.hid (dec1 n h10)
    have hr := Lib.hid (show (ByteArray.mk #[48]) ++ (ByteArray.mk [d1 n].toArray) = ByteArray.mk (dig2 n).toArray by
      have : d1 (n / 10) = 48 := by unfold d1; rw [show n / 10 = 0 by omega]; rfl
      show (ByteArray.mk [48].toArray) ++ (ByteArray.mk [d1 n].toArray) = _
      rw [app_L]; unfold dig2; rw [this]; rfl)
    have hs1 : (ByteArray.mk [d1 n].toArray).size = 1 := rfl
    go_enter Tryd.func37, Tryd.ntmps37
    go_wp2_with fail
    refine hi.out.mono ?_
    rintro e w' ⟨rfl, rfl⟩
    rw [hd.out]
    generalize (ByteArray.mk [d1 n].toArray) = s at hs1 hr
    go_wp2_with fail
    refine wp_loop_rounds 2 ?_
    rw [rounds_succ]
    go_wp2_with fail
    rw [rounds_succ]
    go_wp2_with fail
    go_ret
    exact ⟨by rw [← hr.out]; rfl, rfl⟩
  · have hd := Lib.hid (dec2 n (by omega) h1)
    have hs1 : (ByteArray.mk (dig2 n).toArray).size = 2 := rfl
    go_enter Tryd.func37, Tryd.ntmps37
    go_wp2_with fail
    refine hi.out.mono ?_
    rintro e w' ⟨rfl, rfl⟩
    rw [hd.out]
    generalize hse : (ByteArray.mk (dig2 n).toArray) = s at hs1
    have hsh := Lib.hid hse
    clear hse
    go_wp2_with fail
    refine wp_loop_rounds 1 ?_
    rw [rounds_succ]
    go_wp2_with fail
    go_ret
    exact ⟨by first | rfl | (rw [hsh.out]; rfl), rfl⟩
/-- A digit cut out of the ten. -/
theorem ten_cut (x : Nat) : (ByteArray.mk #[48, 49, 50, 51, 52, 53, 54, 55, 56, 57]).extract (x % 10) (x % 10 + 1) = ByteArray.mk [d1 x].toArray := by
  have key : ∀ d : Fin 10, (ByteArray.mk #[48, 49, 50, 51, 52, 53, 54, 55, 56, 57]).extract d.1 (d.1 + 1) = ByteArray.mk [UInt8.ofNat (48 + d.1)].toArray := by decide
  exact key ⟨x % 10, by omega⟩
theorem cat4 (n : Nat) : (ByteArray.mk #[d1 (n / 10 / 10 / 10)]) ++ ((ByteArray.mk #[d1 (n / 10 / 10)]) ++ ((ByteArray.mk #[d1 (n / 10)]) ++ ((ByteArray.mk #[d1 n]) ++ (ByteArray.mk #[])))) = ByteArray.mk (dig4 n).toArray := by
  have e1 : n / 10 / 10 / 10 = n / 1000 := by omega
  have e2 : n / 10 / 10 = n / 100 := by omega
  unfold dig4
  rw [e1, e2]
  exact (show _ = ByteArray.mk ([d1 (n / 1000)] ++ ([d1 (n / 100)] ++ ([d1 (n / 10)] ++ ([d1 n] ++ [])))).toArray by
    rw [← app_L, ← app_L, ← app_L, ← app_L])
theorem cat2 (n : Nat) : (ByteArray.mk #[d1 (n / 10)]) ++ ((ByteArray.mk #[d1 n]) ++ (ByteArray.mk #[])) = ByteArray.mk (dig2 n).toArray := by
  unfold dig2
  exact (show _ = ByteArray.mk ([d1 (n / 10)] ++ ([d1 n] ++ [])).toArray by rw [← app_L, ← app_L])
set_option maxHeartbeats 400000 in
theorem digits4 (n : Nat) (w : World) (h1 : n < 10000) :
    Calls Tryd.prog 38 #[.int .i64 n, .int .i64 4] w fun e w' => e = .returned (.string ⟨(dig4 n).toArray⟩) ∧ w = w' := by
  have hx := ten_cut
  have hc := Lib.hid (cat4 n)
  go_enter Tryd.func38, Tryd.ntmps38
  go_wp2_with fail
  refine wp_loop_rounds 5 ?_
  repeat any_goals (rw [rounds_succ]; go_wp2_with fail)
  go_ret
  exact ⟨by rw [← hc.out]; rfl, rfl⟩
set_option maxHeartbeats 400000 in
theorem digits2 (n : Nat) (w : World) (h1 : n < 10000) :
    Calls Tryd.prog 38 #[.int .i64 n, .int .i64 2] w fun e w' => e = .returned (.string ⟨(dig2 n).toArray⟩) ∧ w = w' := by
  have hx := ten_cut
  have hc := Lib.hid (cat2 n)
  go_enter Tryd.func38, Tryd.ntmps38
  go_wp2_with fail
  refine wp_loop_rounds 3 ?_
  repeat any_goals (rw [rounds_succ]; go_wp2_with fail)
  go_ret
  exact ⟨by rw [← hc.out]; rfl, rfl⟩
/-- The text of a date. -/
def fmtL (y m d : Int) : List UInt8 := dig4 y.toNat ++ [45] ++ dig2 m.toNat ++ [45] ++ dig2 d.toNat
def FmtPost (n : Int) (w : World) (e : Ending) (w' : World) : Prop := ∃ y m d : Int, e = .returned (.string ⟨(fmtL y m d).toArray⟩) ∧ Reads n y m d ∧ Below w.heap.size w w'
theorem size4 (n : Nat) : (ByteArray.mk (dig4 n).toArray).size = 4 := rfl
theorem size2 (n : Nat) : (ByteArray.mk (dig2 n).toArray).size = 2 := rfl
theorem fmt_cat (a b c : Nat) : (((ByteArray.mk (dig4 a).toArray ++ ByteArray.mk #[45]) ++ ByteArray.mk (dig2 b).toArray) ++ ByteArray.mk #[45]) ++ ByteArray.mk (dig2 c).toArray = ByteArray.mk (dig4 a ++ [45] ++ dig2 b ++ [45] ++ dig2 c).toArray := by
  rw [← app_L, ← app_L, ← app_L, ← app_L]
set_option maxHeartbeats 400000 in
theorem format_no (n : Int) (w : World) (h : ¬ (0 ≤ n ∧ n ≤ 99999)) :
    Calls Tryd.prog 17 #[.int .i64 n] w fun e w' => e = .returned (.string ⟨#[]⟩) ∧ w = w' := by
  have hid := Lib.hid (isDate_any n w)
  have hdd := Lib.hid (decide_eq_false h)
  clear h
  go_enter Tryd.func17, Tryd.ntmps17
  go_wp2_with fail
  refine hid.out.mono ?_
  rintro e w' ⟨rfl, rfl⟩
  rw [hdd.out]
  go_wp2_with fail
  go_ret
  exact ⟨rfl, rfl⟩
set_option maxHeartbeats 400000 in
theorem rformat_no (n : Int) (w : World) (h : ¬ (0 ≤ n ∧ n ≤ 99999)) :
    Calls Tryd.prog 18 #[.int .i64 n] w fun e w' => e = .returned (.string ⟨#[]⟩) ∧ w = w' := by
  have hs := Lib.hid (rsplit_no n w h)
  clear h
  go_enter Tryd.func18, Tryd.ntmps18
  go_wp2_with fail
  refine hs.out.mono ?_
  rintro e w' ⟨rfl, rfl⟩
  go_wp2_with fail
  go_ret
  exact ⟨rfl, rfl⟩
set_option maxHeartbeats 400000 in
theorem format_yes (n : Int) (w : World) (h0 : 0 ≤ n) (h1 : n ≤ 99999) (hm : MD w) (ht : TabW w) : Calls Tryd.prog 17 #[.int .i64 n] w (FmtPost n w) := by
  have hid := Lib.hid (isDate_any n w)
  have hdd := Lib.hid (decide_eq_true (show 0 ≤ n ∧ n ≤ 99999 from ⟨h0, h1⟩))
  have hsp := Lib.hid (split_yes n w h0 h1 hm)
  have hth := Lib.hid ht
  clear hm ht
  go_enter Tryd.func17, Tryd.ntmps17
  go_wp2_with fail
  refine hid.out.mono ?_
  rintro e w' ⟨rfl, rfl⟩
  rw [hdd.out]
  go_wp2_with fail
  refine hsp.out.mono ?_
  rintro e w' ⟨v, rfl, ⟨y, m, d, rfl, hr, hy3⟩, rfl⟩
  have hR := Lib.hid hr
  obtain ⟨hy0, hm1, hm2, hd1, hd2, hrest⟩ := hr
  have hmb := ml_bd y m
  have hd31 : d ≤ 31 := by omega
  clear hrest hsp hd2 hmb
  obtain ⟨a, rfl⟩ : ∃ a : Nat, y = a := ⟨y.toNat, by omega⟩
  obtain ⟨b, rfl⟩ : ∃ b : Nat, m = b := ⟨m.toNat, by omega⟩
  obtain ⟨c, rfl⟩ : ∃ c : Nat, d = c := ⟨d.toNat, by omega⟩
  have hp4 := Lib.hid (padded4 a w (by omega) (by omega) hth.out)
  have hpb := Lib.hid (fun W => padded2 b W (by omega))
  have hpc := Lib.hid (fun W => padded2 c W (by omega))
  have hfin := Lib.hid (fmt_cat a b c)
  have s4 := size4 a
  have sb := size2 b
  have sc := size2 c
  go_wp2_with fail
  refine hp4.out.mono ?_
  rintro e w1 ⟨rfl, hb1⟩
  go_wp2_with fail
  refine (hpb.out _).mono ?_
  rintro e w' ⟨rfl, rfl⟩
  go_wp2_with fail
  refine (hpc.out _).mono ?_
  rintro e w' ⟨rfl, rfl⟩
  go_wp2_with fail
  go_ret
  exact ⟨a, b, c, by unfold fmtL; rw [Int.toNat_natCast, Int.toNat_natCast, Int.toNat_natCast, ← hfin.out]; rfl, hR.out, hb1⟩
set_option maxHeartbeats 400000 in
theorem rformat_yes (n : Int) (w : World) (h0 : 0 ≤ n) (h1 : n ≤ 99999) : Calls Tryd.prog 18 #[.int .i64 n] w (FmtPost n w) := by
  have hsp := Lib.hid (rsplit_yes n w h0 h1)
  go_enter Tryd.func18, Tryd.ntmps18
  go_wp2_with fail
  refine hsp.out.mono ?_
  rintro e w1 ⟨v, rfl, ⟨y, m, d, rfl, hr, hy3⟩, hb1⟩
  have hR := Lib.hid hr
  have HB := Lib.hid hb1
  obtain ⟨hy0, hm1, hm2, hd1, hd2, hrest⟩ := hr
  have hmb := ml_bd y m
  have hd31 : d ≤ 31 := by omega
  clear hrest hsp hd2 hmb hb1
  obtain ⟨a, rfl⟩ : ∃ a : Nat, y = a := ⟨y.toNat, by omega⟩
  obtain ⟨b, rfl⟩ : ∃ b : Nat, m = b := ⟨m.toNat, by omega⟩
  obtain ⟨c, rfl⟩ : ∃ c : Nat, d = c := ⟨d.toNat, by omega⟩
  have hp4 := Lib.hid (fun W => digits4 a W (by omega))
  have hpb := Lib.hid (fun W => digits2 b W (by omega))
  have hpc := Lib.hid (fun W => digits2 c W (by omega))
  have hfin := Lib.hid (fmt_cat a b c)
  have s4 := size4 a
  have sb := size2 b
  have sc := size2 c
  have hz : ((a : Int) == 0) = false := beq_eq_false_iff_ne.2 (by omega)
  go_wp2_with fail
  refine (hp4.out _).mono ?_
  rintro e w' ⟨rfl, rfl⟩
  go_wp2_with fail
  refine (hpb.out _).mono ?_
  rintro e w' ⟨rfl, rfl⟩
  go_wp2_with fail
  refine (hpc.out _).mono ?_
  rintro e w' ⟨rfl, rfl⟩
  go_wp2_with fail
  go_ret
  exact ⟨a, b, c, by unfold fmtL; rw [Int.toNat_natCast, Int.toNat_natCast, Int.toNat_natCast, ← hfin.out]; rfl, hR.out, HB.out⟩
end Go.Proofs.YtijceaapfbpfcaaDoor
