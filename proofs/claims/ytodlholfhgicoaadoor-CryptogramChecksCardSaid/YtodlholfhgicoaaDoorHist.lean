/- The walks of usedUp and accept: the history of a token. -/
import Derived.Test.YtodlholfhgicoaaDoorMak2
import Derived.Laws.Rows
import Derived.Laws.Tables
import Derived.Deep.MidRow
import Derived.Deep.WholeRow
namespace Go.Proofs.YtodlholfhgicoaaDoor
set_option linter.unusedVariables false
open Go.RowKit Go.Sort

/-- The cells of a history: the greatest counter, and what was accepted below it. -/
def histC (n : Int) (f : Nat → Bool) : Array Value := #[Value.int .i64 n] ++ (Array.range 64).map (fun i => Value.bool (f i))
theorem histC_size (n : Int) (f : Nat → Bool) : (histC n f).size = 65 := by simp [histC]
theorem histC_0 (n : Int) (f : Nat → Bool) : (histC n f)[0]? = some (.int .i64 n) := by simp [histC]
theorem histC_at (n : Int) (f : Nat → Bool) (i : Nat) (h : i < 64) : (histC n f)[1 + i]? = some (.bool (f i)) := by
  unfold histC
  rw [Array.getElem?_append_right (by simp)]
  simp [h]
def usedB (n : Int) (f : Nat → Bool) (c win : Int) : Bool := if n < c then false else if c < n - win then true else f (n - c).toNat
set_option maxRecDepth 100000 in
set_option maxHeartbeats 1600000 in
theorem used_any (n : Int) (f : Nat → Bool) (c win : Int) (w : World) (hn : 0 ≤ n) (hn2 : n ≤ 1000000) (hc : -9223372036854775808 ≤ c) (hw : 0 ≤ win) (hw2 : win ≤ 63) :
    Calls Tryd.prog 37 #[.agg (histC n f), .int .i64 c, .int .i64 win] w fun e w' => e = .returned (.bool (usedB n f c win)) ∧ Below w.heap.size w w' := by
  have c0 : (w.alloc (.cells (histC n f) 71)).cell? ⟨w.heap.size, 0, none⟩ = some (.int .i64 n) := by rw [cell_c (MapKept.heap_alloc w _).1, histC_0]
  by_cases h1 : n < c
  · have HU := Lib.hid (show usedB n f c win = false by unfold usedB; rw [if_pos h1])
    go_enter Tryd.func37, Tryd.ntmps37
    go_wp2_with fail
    go_ret
    exact ⟨by rw [HU.out]; rfl, alloc_lt _ _⟩
  · by_cases h2 : c < n - win
    · have HU := Lib.hid (show usedB n f c win = true by unfold usedB; rw [if_neg h1, if_pos h2])
      go_enter Tryd.func37, Tryd.ntmps37
      go_wp2_with fail
      go_ret
      exact ⟨by rw [HU.out]; rfl, alloc_lt _ _⟩
    · have HU := Lib.hid (show usedB n f c win = f (n - c).toNat by unfold usedB; rw [if_neg h1, if_neg h2])
      obtain ⟨d, hd⟩ : ∃ d : Nat, n - c = (d : Int) := ⟨(n - c).toNat, by omega⟩
      have hd64 : d < 64 := by omega
      have c1 : (w.alloc (.cells (histC n f) 71)).cell? ⟨w.heap.size, 1 + d, none⟩ = some (.bool (f d)) := by rw [cell_c (MapKept.heap_alloc w _).1, histC_at n f d hd64]
      have hdI : (d : Int) < 64 := by omega
      have hd0 : (0 : Int) ≤ (d : Int) := by omega
      go_enter Tryd.func37, Tryd.ntmps37
      go_wp2_with fail
      go_ret
      exact ⟨by rw [HU.out, hd]; rfl, alloc_lt _ _⟩
end Go.Proofs.YtodlholfhgicoaaDoor
