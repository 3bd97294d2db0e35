/- The walk of small, and the law Makes. -/
import Derived.Test.YtodlholfhgicoaaDoorLNob
namespace Go.Proofs.YtodlholfhgicoaaDoor
set_option linter.unusedVariables false
open Go.RowKit Go.Sort Go.Maps

def smallB (t cur nonce code : ByteArray) : Bool := decide (t.size ≤ 100) && (decide (cur.size ≤ 100) && (decide (nonce.size ≤ 100) && decide (code.size ≤ 100)))
set_option maxRecDepth 100000 in
set_option maxHeartbeats 1600000 in
theorem small_any (t : ByteArray) (c a : Int) (cur nonce code : ByteArray) (r : Bool) (w : World) : Calls Tryd.prog 8 #[.agg (payC t c a cur nonce code r)] w fun e w' => e = .returned (.bool (smallB t cur nonce code)) ∧ Below w.heap.size w w' := by
  have HB1 := Lib.hid (alloc_lt w (.cells (payC t c a cur nonce code r) 26))
  have HS : Hid (smallB t cur nonce code = (decide (t.size ≤ 100) && (decide (cur.size ≤ 100) && (decide (nonce.size ≤ 100) && decide (code.size ≤ 100))))) := Lib.hid rfl
  unfold payC at *
  by_cases q1 : t.size ≤ 100
  · have q1' : (t.size : Int) ≤ 100 := by omega
    by_cases q2 : cur.size ≤ 100
    · have q2' : (cur.size : Int) ≤ 100 := by omega
      by_cases q3 : nonce.size ≤ 100
      · have q3' : (nonce.size : Int) ≤ 100 := by omega
        by_cases q4 : code.size ≤ 100
        · have q4' : (code.size : Int) ≤ 100 := by omega
          have HS2 : Hid (smallB t cur nonce code = true) := Lib.hid (by rw [HS.out, decide_eq_true q1, decide_eq_true q2, decide_eq_true q3, decide_eq_true q4]; rfl)
          go_enter Tryd.func8, Tryd.ntmps8
          go_wp2_with fail
          go_ret
          exact ⟨by rw [HS2.out]; rfl, HB1.out⟩
        · have q4' : ¬ (code.size : Int) ≤ 100 := by omega
          have HS2 : Hid (smallB t cur nonce code = false) := Lib.hid (by rw [HS.out, decide_eq_false q4]; simp)
          go_enter Tryd.func8, Tryd.ntmps8
          go_wp2_with fail
          go_ret
          exact ⟨by rw [HS2.out]; rfl, HB1.out⟩
      · have q3' : ¬ (nonce.size : Int) ≤ 100 := by omega
        have HS2 : Hid (smallB t cur nonce code = false) := Lib.hid (by rw [HS.out, decide_eq_false q3]; simp)
        go_enter Tryd.func8, Tryd.ntmps8
        go_wp2_with fail
        go_ret
        exact ⟨by rw [HS2.out]; rfl, HB1.out⟩
    · have q2' : ¬ (cur.size : Int) ≤ 100 := by omega
      have HS2 : Hid (smallB t cur nonce code = false) := Lib.hid (by rw [HS.out, decide_eq_false q2]; simp)
      go_enter Tryd.func8, Tryd.ntmps8
      go_wp2_with fail
      go_ret
      exact ⟨by rw [HS2.out]; rfl, HB1.out⟩
  · have q1' : ¬ (t.size : Int) ≤ 100 := by omega
    have HS2 : Hid (smallB t cur nonce code = false) := Lib.hid (by rw [HS.out, decide_eq_false q1]; simp)
    go_enter Tryd.func8, Tryd.ntmps8
    go_wp2_with fail
    go_ret
    exact ⟨by rw [HS2.out]; rfl, HB1.out⟩
end Go.Proofs.YtodlholfhgicoaaDoor
