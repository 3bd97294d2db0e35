/- The walks of Check, of the program and of the reference. -/
import Derived.Test.YtoiddojmlhknlaaDoorDesc
namespace Go.Proofs.YtoiddojmlhknlaaDoor
set_option linter.unusedVariables false
open Go.RowKit

def itemZ (k : ByteArray) (n h : Int) : Value := .agg #[.string k, .int .i64 n, .int .u64 h]
def chkE (k : ByteArray) (n : Int) : Nat := if nameB k.data.toList = false then 5 else if n < 1 ∨ 1000000 < n then 4 else 0
set_option maxHeartbeats 1600000 in
theorem check_any (k : ByteArray) (n h : Int) (w : World) (hk : k.size ≤ maxLen) : Calls Tryd.prog 23 #[itemZ k n h] w fun e w' => e = .returned (.int .i64 (chkE k n)) ∧ Below w.heap.size w w' := by
  have hn := Lib.hid (fun w => name_any k w hk)
  unfold maxLen at hk
  unfold itemZ
  go_enter Tryd.func23, Tryd.ntmps23
  go_wp2_with fail
  refine (hn.out _).mono ?_
  rintro e w1 ⟨rfl, hb⟩
  have hlt : w.heap.size < w1.heap.size := Nat.lt_of_lt_of_le (by simp) hb.size
  have hcell : w1.heap[w.heap.size]? = some (Obj.cells #[.string k, .int .i64 n, .int .u64 h] 35) := by
    rw [hb.block _ (by simp)]; exact (MapKept.heap_alloc w _).1
  have c1 : w1.cell? ⟨w.heap.size, 1, none⟩ = some (.int .i64 n) := by simp [World.cell?, hcell]
  have hb' : Hid (Below w.heap.size w w1) := Lib.hid ((Joins.below_alloc1 w _).trans (hb.mono (by simp)))
  clear hb
  cases hnb : nameB k.data.toList
  · have he := Lib.hid (show chkE k n = 5 by simp [chkE, hnb])
    clear hnb
    go_wp2_with fail
    go_ret
    exact ⟨by rw [he.out]; rfl, hb'.out⟩
  · by_cases h1 : n < 1
    · have he := Lib.hid (show chkE k n = 4 by simp [chkE, hnb, h1])
      clear hnb
      go_wp2_with fail
      go_ret
      exact ⟨by rw [he.out]; rfl, hb'.out⟩
    · by_cases h2 : 1000000 < n
      · have he := Lib.hid (show chkE k n = 4 by simp [chkE, hnb, h1, h2])
        clear hnb
        go_wp2_with fail
        go_ret
        exact ⟨by rw [he.out]; rfl, hb'.out⟩
      · have he := Lib.hid (show chkE k n = 0 by simp [chkE, hnb, h1, h2])
        clear hnb
        go_wp2_with fail
        go_ret
        exact ⟨by rw [he.out]; rfl, hb'.out⟩
set_option maxHeartbeats 1600000 in
theorem rcheck_any (k : ByteArray) (n h : Int) (w : World) (hk : k.size ≤ maxLen) : Calls Tryd.prog 25 #[itemZ k n h] w fun e w' => e = .returned (.int .i64 (chkE k n)) ∧ Below w.heap.size w w' := by
  have hn := Lib.hid (fun w => rname_below k w hk)
  unfold maxLen at hk
  unfold itemZ
  go_enter Tryd.func25, Tryd.ntmps25
  go_wp2_with fail
  refine (hn.out _).mono ?_
  rintro e w1 ⟨rfl, hb⟩
  have hlt : w.heap.size < w1.heap.size := Nat.lt_of_lt_of_le (by simp) hb.size
  have hcell : w1.heap[w.heap.size]? = some (Obj.cells #[.string k, .int .i64 n, .int .u64 h] 35) := by
    rw [hb.block _ (by simp)]; exact (MapKept.heap_alloc w _).1
  have c1 : w1.cell? ⟨w.heap.size, 1, none⟩ = some (.int .i64 n) := by simp [World.cell?, hcell]
  have hb' : Hid (Below w.heap.size w w1) := Lib.hid ((Joins.below_alloc1 w _).trans (hb.mono (by simp)))
  clear hb
  cases hnb : nameB k.data.toList
  · have he := Lib.hid (show chkE k n = 5 by simp [chkE, hnb])
    clear hnb
    go_wp2_with fail
    go_ret
    exact ⟨by rw [he.out]; rfl, hb'.out⟩
  · by_cases h1 : n < 1
    · have he := Lib.hid (show chkE k n = 4 by simp [chkE, hnb, h1])
      clear hnb
      go_wp2_with fail
      go_ret
      exact ⟨by rw [he.out]; rfl, hb'.out⟩
    · by_cases h2 : 1000000 < n
      · have he := Lib.hid (show chkE k n = 4 by simp [chkE, hnb, h1, h2])
        clear hnb
        go_wp2_with fail
        go_ret
        exact ⟨by rw [he.out]; rfl, hb'.out⟩
      · have he := Lib.hid (show chkE k n = 0 by simp [chkE, hnb, h1, h2])
        clear hnb
        go_wp2_with fail
        go_ret
        exact ⟨by rw [he.out]; rfl, hb'.out⟩
end Go.Proofs.YtoiddojmlhknlaaDoor
