/- Ranges: Check, Within. -/
import Derived.Test.YtiegoffdbhmfbaaGreatDoorExa
import Derived.Laws.DeepStrings4
namespace Go.Proofs.YtiegoffdbhmfbaaGreatDoor
set_option linter.unusedVariables false
open Go.RowKit

def ckR (l : List Rg) : Int := (exR l).1
set_option maxRecDepth 100000 in
theorem ckl_any (A : Option Addr) (cp : Nat) (l : List Rg) (w : World) (hr : IsRow w A (l.flatMap rgF)) (hok : ∀ x ∈ l, RgOk x) (hc : l.length ≤ cp) (hm : cp ≤ maxLen) :
    Calls Tryz.prog 10 #[.slice A l.length cp] w fun e w' => e = .returned (.int .i64 (ckR l)) ∧ Below w.heap.size w w' := by
  have HE := Lib.hid (fun W h => exa_any A cp l W h hok hc hm)
  have HR := Lib.hid hr
  unfold ExPost at HE
  unfold ckR
  clear hr hok
  generalize (exR l).1 = E at *
  generalize (exR l).2 = X at *
  go_enter Tryz.func10, Tryz.ntmps10
  go_wp2_with fail
  refine (HE.out _ HR.out).mono ?_
  rintro e w2 ⟨rfl, hb⟩
  have HB := Lib.hid hb
  clear hb
  go_wp2_with fail
  go_ret
  exact ⟨rfl, HB.out⟩
/-- Within: the prefix of a number lies between two texts. -/
def leS (a b : ByteArray) : Bool := Op.bytesLess a.toList b.toList || a.toList == b.toList
def wiB (s lo hi : ByteArray) : Bool := decide (lo.size = hi.size) && decide (1 ≤ lo.size) && decide (lo.size ≤ s.size) && digsB s && digsB lo && digsB hi && leS lo (s.extract 0 lo.size) && leS (s.extract 0 lo.size) hi
set_option maxRecDepth 100000 in
set_option maxHeartbeats 3200000 in
theorem wi_any (s lo hi : ByteArray) (w : World) (h1 : s.size ≤ maxLen) (h2 : lo.size ≤ maxLen) (h3 : hi.size ≤ maxLen) : Calls Tryz.prog 17 #[.string s, .string lo, .string hi] w fun e w' => e = .returned (.bool (wiB s lo hi)) ∧ Below w.heap.size w w' := by
  have HD1 := Lib.hid (fun W => areDig_any s W h1)
  have HD2 := Lib.hid (fun W => areDig_any lo W h2)
  have HD3 := Lib.hid (fun W => areDig_any hi W h3)
  have HW : Hid (wiB s lo hi = (decide (lo.size = hi.size) && decide (1 ≤ lo.size) && decide (lo.size ≤ s.size) && digsB s && digsB lo && digsB hi && leS lo (s.extract 0 lo.size) && leS (s.extract 0 lo.size) hi)) := Lib.hid rfl
  generalize wiB s lo hi = WV at *
  clear h1 h2 h3
  by_cases q : lo.size = hi.size ∧ 1 ≤ lo.size ∧ lo.size ≤ s.size
  · obtain ⟨q1, q2, q3⟩ := q
    have e1 : (lo.size : Int) = (hi.size : Int) := by omega
    have e2 : ¬ (lo.size : Int) < 1 := by omega
    have e3 : ¬ (s.size : Int) < (lo.size : Int) := by omega
    have HW1 : Hid (WV = (digsB s && digsB lo && digsB hi && leS lo (s.extract 0 lo.size) && leS (s.extract 0 lo.size) hi)) := Lib.hid (by rw [HW.out, decide_eq_true q1, decide_eq_true q2, decide_eq_true q3]; simp)
    clear HW
    have Q1 := Lib.hid q1
    clear q1
    generalize digsB s = D1 at *
    generalize digsB lo = D2 at *
    generalize digsB hi = D3 at *
    have hways : D1 = false ∨ (D1 = true ∧ D2 = false) ∨ (D1 = true ∧ D2 = true ∧ D3 = false) ∨ (D1 = true ∧ D2 = true ∧ D3 = true) := by cases D1 <;> cases D2 <;> cases D3 <;> simp
    rcases hways with rfl | ⟨rfl, rfl⟩ | ⟨rfl, rfl, rfl⟩ | ⟨rfl, rfl, rfl⟩
    · have HX : Hid (WV = false) := Lib.hid (by rw [HW1.out]; rfl)
      go_enter Tryz.func17, Tryz.ntmps17
      go_wp2_with fail
      refine (HD1.out _).mono ?_
      rintro e w2 ⟨rfl, hb⟩
      have HB := Lib.hid hb
      clear hb
      go_wp2_with fail
      go_ret
      exact ⟨by rw [HX.out]; rfl, HB.out⟩
    · have HX : Hid (WV = false) := Lib.hid (by rw [HW1.out]; rfl)
      go_enter Tryz.func17, Tryz.ntmps17
      go_wp2_with fail
      refine (HD1.out _).mono ?_
      rintro e w2 ⟨rfl, hb⟩
      have HB := Lib.hid hb
      clear hb
      go_wp2_with fail
      refine (HD2.out _).mono ?_
      rintro e w3 ⟨rfl, hb⟩
      have HB2 := Lib.hid (HB.out.trans (hb.mono HB.out.size))
      clear hb
      go_wp2_with fail
      go_ret
      exact ⟨by rw [HX.out]; rfl, HB2.out⟩
    · have HX : Hid (WV = false) := Lib.hid (by rw [HW1.out]; rfl)
      go_enter Tryz.func17, Tryz.ntmps17
      go_wp2_with fail
      refine (HD1.out _).mono ?_
      rintro e w2 ⟨rfl, hb⟩
      have HB := Lib.hid hb
      clear hb
      go_wp2_with fail
      refine (HD2.out _).mono ?_
      rintro e w3 ⟨rfl, hb⟩
      have HB2 := Lib.hid (HB.out.trans (hb.mono HB.out.size))
      clear hb
      go_wp2_with fail
      refine (HD3.out _).mono ?_
      rintro e w4 ⟨rfl, hb⟩
      have HB3 := Lib.hid (HB2.out.trans (hb.mono HB2.out.size))
      clear hb
      go_wp2_with fail
      go_ret
      exact ⟨by rw [HX.out]; rfl, HB3.out⟩
    · have HX : Hid (WV = (leS lo (s.extract 0 hi.size) && leS (s.extract 0 hi.size) hi)) := Lib.hid (by rw [HW1.out, Q1.out]; simp)
      clear HW1
      cases hL : leS lo (s.extract 0 hi.size)
      · have hL' : (Op.bytesLess lo.toList (s.extract 0 hi.size).toList || lo.toList == (s.extract 0 hi.size).toList) = false := hL
        have HY : Hid (WV = false) := Lib.hid (by rw [HX.out, hL]; rfl)
        clear HX hL
        go_enter Tryz.func17, Tryz.ntmps17
        go_wp2_with fail
        refine (HD1.out _).mono ?_
        rintro e w2 ⟨rfl, hb⟩
        have HB := Lib.hid hb
        clear hb
        go_wp2_with fail
        refine (HD2.out _).mono ?_
        rintro e w3 ⟨rfl, hb⟩
        have HB2 := Lib.hid (HB.out.trans (hb.mono HB.out.size))
        clear hb
        go_wp2_with fail
        refine (HD3.out _).mono ?_
        rintro e w4 ⟨rfl, hb⟩
        have HB3 := Lib.hid (HB2.out.trans (hb.mono HB2.out.size))
        clear hb
        go_wp2_with fail
        go_ret
        exact ⟨by rw [HY.out]; rfl, HB3.out⟩
      · have hL' : (Op.bytesLess lo.toList (s.extract 0 hi.size).toList || lo.toList == (s.extract 0 hi.size).toList) = true := hL
        have HY : Hid ((Op.bytesLess (s.extract 0 hi.size).toList hi.toList || (s.extract 0 hi.size).toList == hi.toList) = WV) := Lib.hid (by rw [HX.out, hL]; rfl)
        clear HX hL
        go_enter Tryz.func17, Tryz.ntmps17
        go_wp2_with fail
        refine (HD1.out _).mono ?_
        rintro e w2 ⟨rfl, hb⟩
        have HB := Lib.hid hb
        clear hb
        go_wp2_with fail
        refine (HD2.out _).mono ?_
        rintro e w3 ⟨rfl, hb⟩
        have HB2 := Lib.hid (HB.out.trans (hb.mono HB.out.size))
        clear hb
        go_wp2_with fail
        refine (HD3.out _).mono ?_
        rintro e w4 ⟨rfl, hb⟩
        have HB3 := Lib.hid (HB2.out.trans (hb.mono HB2.out.size))
        clear hb
        go_wp2_with fail
        go_ret
        exact ⟨by rw [← HY.out]; rfl, HB3.out⟩
  · have HX : Hid (WV = false) := Lib.hid (by
      rw [HW.out]
      by_cases a : lo.size = hi.size
      · by_cases b : 1 ≤ lo.size
        · have c : ¬ lo.size ≤ s.size := fun c => q ⟨a, b, c⟩
          rw [decide_eq_false c]; simp
        · rw [decide_eq_false b]; simp
      · rw [decide_eq_false a]; simp)
    have hways : ¬ (lo.size : Int) = (hi.size : Int) ∨ ((lo.size : Int) = (hi.size : Int) ∧ (lo.size : Int) < 1) ∨ ((lo.size : Int) = (hi.size : Int) ∧ ¬ (lo.size : Int) < 1 ∧ (s.size : Int) < (lo.size : Int)) := by omega
    clear q HW
    rcases hways with e1 | ⟨e1, e2⟩ | ⟨e1, e2, e3⟩
    all_goals
      go_enter Tryz.func17, Tryz.ntmps17
      go_wp2_with fail
      go_ret
      exact ⟨by rw [HX.out]; rfl, Below.refl _ _⟩
end Go.Proofs.YtiegoffdbhmfbaaGreatDoor
