/- The walks of Index and Contains at items. -/
import Derived.Test.YtoiddojmlhknlaaDoorMem
import Derived.Deep.QuietTactic
import Derived.BigQuiet
import Derived.Laws.StructEq
namespace Go.Proofs.YtoiddojmlhknlaaDoor
set_option linter.unusedVariables false
open Go.RowKit Go.Maps

def hasI (l : List Itm) (x : Itm) : Bool := decide (x ∈ l)
theorem below_drewN {B : Nat} {a w : World} (h : Below B a w) (n : Nat) : Below B a (w.drewN n) := ⟨h.os, h.tape, h.output, h.size, h.block⟩
theorem row_item {w : World} {b off : Nat} {l : List Itm} (h : ∀ j v, (cellsOf l)[j]? = some v → w.cell? ⟨b, off + j, none⟩ = some v) (k : Nat) (hk : k < l.length) :
    w.cell? ⟨b, off + k * 3, none⟩ = some (.string l[k].k) ∧ w.cell? ⟨b, off + k * 3 + 1, none⟩ = some (.int .i64 l[k].n) ∧ w.cell? ⟨b, off + k * 3 + 2, none⟩ = some (.int .u64 l[k].h) := by
  obtain ⟨h1, h2, h3⟩ := cellsOf_at l k hk
  exact ⟨h _ _ h1, h _ _ h2, h _ _ h3⟩
theorem bytes_eq (a b : ByteArray) : (a.toList == b.toList) = decide (a = b) := by
  rw [ByteArray.toList_eq, ByteArray.toList_eq, Bool.eq_iff_iff]
  simp only [beq_iff_eq, decide_eq_true_eq]
  exact ⟨fun h => ByteArray.ext (Array.toList_inj.1 h), fun h => by rw [h]⟩
theorem toList_iff (a b : ByteArray) : a.toList = b.toList ↔ a = b := by
  have := bytes_eq a b
  rw [Bool.eq_iff_iff] at this
  simpa using this
theorem itm_eq_iff (x y : Itm) : x = y ↔ x.k = y.k ∧ x.n = y.n ∧ x.h = y.h := ⟨fun h => by subst h; exact ⟨rfl, rfl, rfl⟩, fun h => Itm.ext_ h.1 h.2.1 h.2.2⟩
/-- The equality of items, as the program decides it. -/
theorem eq_item (x y : Itm) (w : World) : (binOp .eql 35 (.agg #[.string x.k, .int .i64 x.n, .int .u64 x.h]) (.agg #[.string y.k, .int .i64 y.n, .int .u64 y.h])).run Tryd.prog w = .ok (.bool (decide (x = y))) w := by
  rw [run_eql_struct]
  rw [run_equalIn_struct _ _ _ _ _ Tryd.underlying35 Tryd.stoodInHeld35]
  go_simp
  simp only [toList_iff, itm_eq_iff]
  by_cases h1 : x.k = y.k <;> by_cases h2 : x.n = y.n <;> by_cases h3 : x.h = y.h <;> simp [h1, h2, h3]
theorem take_has (l : List Itm) (x : Itm) (k : Nat) (h : k < l.length) : hasI (l.take (k + 1)) x = (hasI (l.take k) x || decide (x = l[k])) := by
  rw [List.take_succ_eq_append_getElem h]; unfold hasI
  rw [Bool.eq_iff_iff]; simp only [List.mem_append, List.mem_singleton, decide_eq_true_eq, Bool.or_eq_true]
theorem hasI_of (l : List Itm) (x : Itm) (k : Nat) (h : k < l.length) (hd : decide (x = l[k]) = true) : hasI l x = true := by
  have := of_decide_eq_true hd
  unfold hasI; rw [this]; simp
set_option maxHeartbeats 800000 in
theorem index_any (A : Option Addr) (c : Nat) (l : List Itm) (x : Itm) (w : World) (hr : IsRow w A (cellsOf l)) (hl : l.length ≤ 1000) (hlc : l.length ≤ c) :
    Calls Tryd.prog 35 #[.slice A l.length c, x.val] w fun e w' => (∃ n : Int, e = .returned (.int .i64 n) ∧ decide (0 ≤ n) = hasI l x) ∧ Below w.heap.size w w' := by
  have HR := Lib.hid hr
  clear hr
  unfold Itm.val
  go_enter Tryd.func35, Tryd.ntmps35
  go_wp2_with fail
  generalize hW : w.alloc (Obj.cells #[Value.string x.k, Value.int IntKind.i64 x.n, Value.int IntKind.u64 x.h] 35) = W
  have hB : Hid (Below w.heap.size w W) := Lib.hid (by rw [← hW]; exact (Below.refl _ _).alloc (Nat.le_refl _) _)
  have hx0 : W.cell? ⟨w.heap.size, 0, none⟩ = some (.string x.k) := by rw [← hW]; simp
  have hx1 : W.cell? ⟨w.heap.size, 1, none⟩ = some (.int .i64 x.n) := by rw [← hW]; simp
  have hx2 : W.cell? ⟨w.heap.size, 2, none⟩ = some (.int .u64 x.h) := by rw [← hW]; simp
  have hR : Hid (IsRow W A (cellsOf l)) := Lib.hid (HR.out.below hB.out)
  clear hW
  go_loopw [8] (fun i wr => ∃ k m : Nat, k ≤ l.length ∧ i = .int .i64 k ∧ wr = W.drewN m ∧ Hid (hasI (l.take k) x = false)) (fun i _ => l.length - (intOf i).toNat)
  case atStart => exact ⟨0, 0, Nat.zero_le _, rfl, rfl, Lib.hid (by simp [hasI])⟩
  case round =>
    obtain ⟨k, m, hk, rfl, rfl, hno⟩ := hrel
    by_cases hlt : k < l.length
    · rcases hR.out with h0 | ⟨b, off, rfl, hc⟩
      · rw [cellsOf_length] at h0; omega
      obtain ⟨c0, c1, c2⟩ := row_item hc k hlt
      clear hc
      have g1 : (0 : Int) ≤ (k : Int) := by omega
      have g2 : (k : Int) < (l.length : Int) := by omega
      have hst := Lib.hid (take_has l x k hlt)
      have hof := Lib.hid (hasI_of l x k hlt)
      generalize l[k] = y at c0 c1 c2 hst hof
      have heq := eq_item x y
      cases hd : decide (x = y)
      all_goals
        rw [hd] at heq
        have HD := Lib.hid hd
        clear hd
        go_wp2_with fail
        go_quiet (fail)
        go_wp2_with fail
      · go_roundw
        case rel => exact ⟨k + 1, _, by omega, by go_num, rfl, Lib.hid (by rw [hst.out, hno.out, HD.out]; rfl)⟩
        case measure => simp [intOf]; omega
      · go_ret
        exact ⟨⟨k, rfl, by rw [hof.out HD.out]; simp⟩, below_drewN (below_drewN hB.out _) _⟩
    · obtain rfl : k = l.length := by omega
      have hend : Hid (hasI l x = false) := Lib.hid (by have := hno.out; rw [List.take_length] at this; exact this)
      go_wp2_with fail
      go_ret
      exact ⟨⟨-1, rfl, by rw [hend.out]; rfl⟩, below_drewN hB.out _⟩
set_option maxHeartbeats 800000 in
theorem contains_any (A : Option Addr) (c : Nat) (l : List Itm) (x : Itm) (w : World) (hr : IsRow w A (cellsOf l)) (hl : l.length ≤ 1000) (hlc : l.length ≤ c) :
    Calls Tryd.prog 24 #[.slice A l.length c, x.val] w fun e w' => e = .returned (.bool (hasI l x)) ∧ Below w.heap.size w w' := by
  have hB : Hid (Below w.heap.size w (w.alloc (Obj.cells #[Value.string x.k, Value.int IntKind.i64 x.n, Value.int IntKind.u64 x.h] 35))) := Lib.hid ((Below.refl _ _).alloc (Nat.le_refl _) _)
  have hI := Lib.hid (index_any A c l x _ (hr.below hB.out) hl hlc)
  unfold Itm.val at hI ⊢
  clear hr
  go_enter Tryd.func24, Tryd.ntmps24
  go_wp2_with fail
  refine hI.out.mono ?_
  rintro e w' ⟨⟨n, rfl, hn⟩, hb⟩
  have hn' := Lib.hid hn
  clear hn
  go_wp2_with fail
  go_ret
  exact ⟨by rw [← hn'.out]; rfl, hB.out.trans (hb.mono (by simp))⟩
end Go.Proofs.YtoiddojmlhknlaaDoor
