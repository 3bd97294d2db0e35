/- The walk of CalendarTexts. -/
import Derived.Test.YtijceaapfbpfcaaDoorAwake
import Derived.Test.YtijceaapfbpfcaaDoorDates
import Derived.Test.YtijceaapfbpfcaaDoorRparse
namespace Go.Proofs.YtijceaapfbpfcaaDoor
set_option linter.unusedVariables false
open Go.RowKit

theorem d1_of (c : UInt8) (x : Nat) (h : (c.toNat : Int) = 48 + (x % 10 : Nat)) : d1 x = c := by
  apply UInt8.toNat_inj.1
  have := d1_nat x
  omega
/-- A text that looks like a date is the text of its numbers. -/
theorem par_back (s : ByteArray) (h : s.size = 10) (hp : parOK s) : s = ⟨(fmtL (parY s) (parM s) (parD s)).toArray⟩ := by
  have hY0 : 0 ≤ parY s ∧ 0 ≤ parM s ∧ 0 ≤ parD s := by
    unfold parOK isD at hp; unfold parY parM parD n4 n2; omega
  obtain ⟨a, ha⟩ : ∃ a : Nat, parY s = a := ⟨(parY s).toNat, by omega⟩
  obtain ⟨b, hb⟩ : ∃ a : Nat, parM s = a := ⟨(parM s).toNat, by omega⟩
  obtain ⟨c, hc⟩ : ∃ a : Nat, parD s = a := ⟨(parD s).toNat, by omega⟩
  have key : ∀ i, i < 10 → (fmtL a b c)[i]? = some (s.data.toList.getD i 0) := by
    intro i hi
    unfold parOK isD at hp
    unfold parY n4 at ha
    unfold parM n2 at hb
    unfold parD n2 at hc
    have hl : fmtL (a : Int) b c = [d1 (a / 1000), d1 (a / 100), d1 (a / 10), d1 a, 45, d1 (b / 10), d1 b, 45, d1 (c / 10), d1 c] := by
      unfold fmtL dig4 dig2; simp
    rw [hl]
    have e45 : ∀ j, chr s j = 45 → (45 : UInt8) = s.data.toList.getD j 0 := by
      intro j hj
      apply UInt8.toNat_inj.1
      unfold chr at hj
      have : (s.data.toList.getD j 0).toNat = 45 := by omega
      rw [this]; rfl
    match i, hi with
    | 0, _ => exact congrArg some (d1_of _ _ (by show chr s 0 = _; omega))
    | 1, _ => exact congrArg some (d1_of _ _ (by show chr s 1 = _; omega))
    | 2, _ => exact congrArg some (d1_of _ _ (by show chr s 2 = _; omega))
    | 3, _ => exact congrArg some (d1_of _ _ (by show chr s 3 = _; omega))
    | 4, _ => exact congrArg some (e45 4 hp.2.1)
    | 5, _ => exact congrArg some (d1_of _ _ (by show chr s 5 = _; omega))
    | 6, _ => exact congrArg some (d1_of _ _ (by show chr s 6 = _; omega))
    | 7, _ => exact congrArg some (e45 7 hp.2.2.2.1)
    | 8, _ => exact congrArg some (d1_of _ _ (by show chr s 8 = _; omega))
    | 9, _ => exact congrArg some (d1_of _ _ (by show chr s 9 = _; omega))
  apply ByteArray.ext
  apply Array.toList_inj.1
  rw [ha, hb, hc]
  apply List.ext_getElem?
  intro i
  by_cases hi : i < 10
  · rw [key i hi]
    have : i < s.data.toList.length := by rw [Array.length_toList]; show i < s.size; omega
    rw [List.getD_eq_getElem?_getD, List.getElem?_eq_getElem this]; rfl
  · rw [List.getElem?_eq_none (by rw [Array.length_toList]; show s.size ≤ i; omega), List.getElem?_eq_none (by show (fmtL _ _ _).length ≤ i; have : (fmtL (a : Int) b c).length = 10 := rfl; omega)]
/-- What Parse returns: a number and an error; what it accepts is the text of the date. -/
theorem par_shape (s : ByteArray) : ∃ n er : Int, parV s = .tuple #[.int .i64 n, .int .i64 er] ∧ (er = 0 → 0 ≤ n ∧ n ≤ 99999 ∧ ∃ y m d, Reads n y m d ∧ s = ⟨(fmtL y m d).toArray⟩) := by
  unfold parV
  by_cases h1 : s.size < 10
  · rw [if_pos h1]; exact ⟨0, 1, rfl, fun h => by omega⟩
  · by_cases h2 : 10 < s.size
    · rw [if_neg h1, if_pos h2]; exact ⟨0, 3, rfl, fun h => by omega⟩
    · by_cases h3 : parOK s
      · rw [if_neg h1, if_neg h2, if_pos h3]
        refine ⟨_, _, rfl, fun h => ?_⟩
        have hsz : s.size = 10 := by omega
        unfold ofE at h
        cases hk : okDate (parY s) (parM s) (parD s)
        · rw [hk] at h; simp at h
        · have hd := of_decide_eq_true hk
          have e : ofN (parY s) (parM s) (parD s) = dby (parY s) + cum (parY s) (parM s) + (parD s - 1) := by unfold ofN; rw [hk]; rfl
          rw [e]
          have k1 := (dby_bd (parY s) hd.1).1
          have k2 := (cum_bd (parY s) (parM s) hd.2.2.1).1
          exact ⟨by omega, hd.2.2.2.2.2.2, parY s, parM s, parD s, ⟨hd.1, hd.2.2.1, hd.2.2.2.1, hd.2.2.2.2.1, hd.2.2.2.2.2.1, rfl⟩, par_back s hsz h3⟩
      · rw [if_neg h1, if_neg h2, if_neg h3]; exact ⟨0, 2, rfl, fun h => by omega⟩
set_option maxRecDepth 100000 in
set_option maxHeartbeats 1600000 in
theorem calendarTexts_walk (w : World) (hm : MD w) (ht : TabW w) (s : ByteArray) (hs : s.size ≤ maxLen) :
    Calls Tryd.prog 8 #[.string s] w fun e w' => e = .returned (.bool true) ∧ Below w.heap.size w w' := by
  have hmh := Lib.hid hm
  have hth := Lib.hid ht
  clear hm ht
  unfold maxLen at hs
  by_cases h100 : s.size ≤ 100
  case neg =>
    go_enter Tryd.func8, Tryd.ntmps8
    go_wp2_with fail
    refine (awake_any w hmh.out hth.out).mono ?_
    rintro e w5 ⟨rfl, hb5⟩
    go_wp2_with fail
    go_ret
    exact ⟨rfl, hb5⟩
  obtain ⟨n, er, hv, hok⟩ := par_shape s
  have hp1 := Lib.hid (fun w hm => parse_any s w (by omega) hm)
  have hp2 := Lib.hid (fun w => rparse_any s w (by omega))
  rw [hv] at hp1 hp2
  clear hv
  have HOK := Lib.hid hok
  clear hok
  go_enter Tryd.func8, Tryd.ntmps8
  go_wp2_with fail
  refine (hp1.out _ hmh.out).mono ?_
  rintro e w1 ⟨rfl, hb1⟩
  have HB1 := Lib.hid hb1
  clear hb1
  go_wp2_with fail
  refine (hp2.out _).mono ?_
  rintro e w2 ⟨rfl, hb2⟩
  have HB2 := Lib.hid (below2 HB1.out hb2)
  clear hb2
  by_cases her : er = 0
  · obtain ⟨h0, h1, y, m, d, hr, rfl⟩ := HOK.out her
    subst her
    have HR := Lib.hid hr
    clear hr h100 hs
    go_wp2_with fail
    refine (format_yes n w2 h0 h1 (hmh.out.below HB2.out) (hth.out.below HB2.out)).mono ?_
    rintro e w3 ⟨y3, m3, d3, rfl, hr3, hb3⟩
    obtain ⟨rfl, rfl, rfl⟩ := HR.out.one hr3
    have HB3 := Lib.hid (below2 HB2.out hb3)
    clear hr3 hb3
    go_wp2_with fail
    refine (awake_any w3 (hmh.out.below HB3.out) (hth.out.below HB3.out)).mono ?_
    rintro e w5 ⟨rfl, hb5⟩
    go_wp2_with fail
    go_ret
    exact ⟨rfl, below2 HB3.out hb5⟩
  · have he : (er != 0) = true := bne_iff_ne.2 her
    have HE := Lib.hid her
    clear her
    go_wp2_with fail
    refine (awake_any w2 (hmh.out.below HB2.out) (hth.out.below HB2.out)).mono ?_
    rintro e w5 ⟨rfl, hb5⟩
    go_wp2_with fail
    go_ret
    exact ⟨rfl, below2 HB2.out hb5⟩
end Go.Proofs.YtijceaapfbpfcaaDoor
