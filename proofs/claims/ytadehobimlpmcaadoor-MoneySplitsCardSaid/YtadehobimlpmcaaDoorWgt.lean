/- The walk of sumOfWeights; rows of the call's own under the sort. -/
import Derived.Test.YtadehobimlpmcaaDoorSrt
import Derived.Test.YtadehobimlpmcaaDoorDiv
import Derived.Deep.OwnRows
import Derived.Laws.OwnMore
namespace Go.Proofs.YtadehobimlpmcaaDoor
set_option linter.unusedVariables false
open Go.RowKit Go.Sort

def cellsI (l : List Int) : List Value := l.map (.int .i64)
theorem row_int {w : World} {b off : Nat} {l : List Int} (hc : ∀ j v, (cellsI l)[j]? = some v → w.cell? ⟨b, off + j, none⟩ = some v) (k : Nat) (hk : k < l.length) : w.cell? ⟨b, off + k, none⟩ = some (.int .i64 (l.getD k 0)) :=
  hc k _ (by simp [cellsI, hk])
/-- A weight is permitted. -/
def okW (x : Int) : Bool := decide (0 ≤ x) && decide (x ≤ 1099511627776)
theorem okW_iff (x : Int) : okW x = true ↔ 0 ≤ x ∧ x ≤ 1099511627776 := by simp [okW]
def natsOf (ws : List Int) : List Nat := ws.map Int.toNat
def totW (ws : List Int) (k : Nat) : Nat := sumTo (fun i => (natsOf ws).getD i 0) k
def allW (ws : List Int) : Bool := decide (ws.length ≤ 64) && ws.all okW
theorem natsOf_at (ws : List Int) (k : Nat) : (natsOf ws).getD k 0 = (ws.getD k 0).toNat := by
  unfold natsOf
  rw [List.getD_eq_getElem?_getD, List.getD_eq_getElem?_getD, List.getElem?_map]
  cases ws[k]? <;> rfl
theorem totW_bd {ws : List Int} : ∀ k, (∀ j, j < k → okW (ws.getD j 0) = true) → totW ws k ≤ 1099511627776 * k
  | 0, _ => by simp [totW, sumTo]
  | k + 1, h => by
    have ih := totW_bd k (fun j hj => h j (by omega))
    have := (okW_iff _).1 (h k (by omega))
    unfold totW at *
    rw [sumTo, natsOf_at]; omega
theorem allW_no {ws : List Int} (k : Nat) (hk : k < ws.length) (h : okW (ws.getD k 0) = false) : allW ws = false := by
  unfold allW
  rw [Bool.and_eq_false_iff]; right
  rw [List.all_eq_false]
  refine ⟨ws[k], List.getElem_mem hk, ?_⟩
  have : ws.getD k 0 = ws[k] := by rw [List.getD_eq_getElem?_getD, List.getElem?_eq_getElem hk]; rfl
  rw [← this, h]; simp
theorem allW_yes {ws : List Int} (h64 : ws.length ≤ 64) (h : ∀ j, j < ws.length → okW (ws.getD j 0) = true) : allW ws = true := by
  unfold allW
  rw [decide_eq_true h64, Bool.true_and, List.all_eq_true]
  intro x hx
  obtain ⟨i, hi, rfl⟩ := List.mem_iff_getElem.1 hx
  have : ws.getD i 0 = ws[i] := by rw [List.getD_eq_getElem?_getD, List.getElem?_eq_getElem hi]; rfl
  rw [← this]; exact h i hi
def sumV1 (ws : List Int) : Nat := if allW ws = true then totW ws ws.length else 0
set_option maxHeartbeats 3200000 in
theorem sumw_any (A : Option Addr) (c : Nat) (ws : List Int) (w : World) (hr : IsRow w A (cellsI ws)) (hl : ws.length ≤ 1000000) :
    Calls Tryd.prog 36 #[.slice A ws.length c] w fun e w' => e = .returned (.tuple #[.int .u64 (sumV1 ws), .bool (decide (0 < sumV1 ws))]) ∧ w = w' := by
  by_cases h64 : 64 < ws.length
  · have hf := Lib.hid (show sumV1 ws = 0 by unfold sumV1 allW; rw [decide_eq_false (by omega)]; rfl)
    clear hr
    go_enter Tryd.func36, Tryd.ntmps36
    go_wp2_with fail
    go_ret2
    exact ⟨by rw [hf.out]; rfl, rfl⟩
  · have HR := Lib.hid hr
    have HB := Lib.hid (show ∀ k, k < ws.length → okW (ws.getD k 0) = false → sumV1 ws = 0 from fun k hk h => by unfold sumV1; rw [allW_no k hk h]; rfl)
    have HY := Lib.hid (show (∀ j, j < ws.length → okW (ws.getD j 0) = true) → sumV1 ws = totW ws ws.length from fun h => by unfold sumV1; rw [allW_yes (by omega) h]; rfl)
    clear hr
    go_enter Tryd.func36, Tryd.ntmps36
    go_wp2_with fail
    obtain ⟨M, hM⟩ : ∃ M : Int, (1099511627776 : Int) = M := ⟨_, rfl⟩
    rw [hM]
    have HM := Lib.hid hM
    clear hM
    go_loop [4, 12] (fun s i => ∃ k : Nat, k ≤ ws.length ∧ i = .int .i64 k ∧ s = .int .u64 (totW ws k) ∧ Hid (∀ j, j < k → okW (ws.getD j 0) = true)) (fun _ i => ws.length - (intOf i).toNat)
    case atStart => exact ⟨0, Nat.zero_le _, rfl, rfl, Lib.hid (fun j h => by omega)⟩
    case round =>
      obtain ⟨k, hk, rfl, rfl, hall⟩ := hrel
      by_cases hlt : k < ws.length
      · rcases HR.out with h0 | ⟨b, off, rfl, hc⟩
        · rw [show (cellsI ws).length = ws.length by simp [cellsI]] at h0; omega
        have c0 := row_int hc k hlt
        have hbd : totW ws k ≤ 1099511627776 * 64 := Nat.le_trans (totW_bd k hall.out) (Nat.mul_le_mul_left _ (by omega))
        have hst := Lib.hid (show totW ws (k + 1) = totW ws k + (ws.getD k 0).toNat by unfold totW; rw [sumTo, natsOf_at])
        have hbad := Lib.hid (HB.out k hlt)
        have hnx := Lib.hid (show okW (ws.getD k 0) = true → ∀ j, j < k + 1 → okW (ws.getD j 0) = true from fun h j hj => by
          rcases Nat.lt_or_ge j k with q | q
          · exact hall.out j q
          · obtain rfl : j = k := by omega
            exact h)
        clear hc
        generalize ws.getD k 0 = x at *
        by_cases hx : 0 ≤ x ∧ x ≤ 1099511627776
        · have hN := Lib.hid (hnx.out ((okW_iff x).2 hx))
          have hT : totW ws (k + 1) = totW ws k + x.toNat := hst.out
          have e1 : IntKind.u64.wrap x = x := wrapU_in _ (by omega) (by omega)
          have e2 : IntKind.u64.wrap ((totW ws k : Int) + x) = ((totW ws (k + 1) : Nat) : Int) := by rw [wrapU_in _ (by omega) (by omega)]; omega
          have x0 : ¬ x < 0 := by omega
          have x1 : ¬ M < x := by rw [← HM.out]; omega
          obtain ⟨T1, hT1⟩ : ∃ T1, totW ws (k + 1) = T1 := ⟨_, rfl⟩
          rw [hT1] at e2 hT
          have HT1 := Lib.hid hT1
          clear hT1
          generalize totW ws k = T0 at *
          clear hx hT hbd hst hnx hbad
          go_wp2_with fail
          exact ⟨⟨k + 1, by omega, by go_num, by rw [HT1.out], hN⟩, by simp [intOf]; omega⟩
        · have hF := Lib.hid (hbad.out (by cases h : okW x; rfl; exact absurd ((okW_iff x).1 h) hx))
          have hd : x < 0 ∨ (¬ x < 0 ∧ M < x) := by rw [← HM.out]; omega
          clear hx hbd hst hnx hbad
          rcases hd with q | ⟨q, q'⟩
          all_goals
            go_wp2_with fail
            go_ret2
            exact ⟨by rw [hF.out]; rfl, rfl⟩
      · obtain rfl : k = ws.length := by omega
        have hF := Lib.hid (HY.out hall.out)
        generalize totW ws ws.length = T at *
        go_wp2_with fail
        go_ret2
        exact ⟨by rw [hF.out]; simp, rfl⟩
theorem rowIs_putRow {w : World} {blk n : Nat} {t : TypeId} {f : Nat → Value} (h : w.rowIs blk t n f) (d : Array Nat) (hd : d.size = n) : (putRow encI w blk 0 d).rowIs blk t n (fun i => encI d[i]!) := by
  obtain ⟨c, hb, hn, hc⟩ := h
  refine ⟨putCells encI 0 d c, ?_, by simpa [putCells] using hn, fun i hi => ?_⟩
  · unfold putRow mapBlock
    simp [Array.getElem?_modify, hb, onCells]
  · simp [putCells, Array.getElem?_mapIdx, hc i hi, hd, hi]
theorem rowIs_putRow_other {w : World} {b blk n : Nat} {t : TypeId} {f : Nat → Value} (h : w.rowIs b t n f) (hne : b ≠ blk) (d : Array Nat) : (putRow encI w blk 0 d).rowIs b t n f := by
  refine h.of_block ?_
  unfold putRow mapBlock
  simp only [Array.getElem?_modify]
  rw [if_neg (fun e => hne e.symm)]
theorem below_putRow {B : Nat} {a w : World} {blk : Nat} (h : Below B a w) (hB : B ≤ blk) (d : Array Nat) : Below B a (putRow encI w blk 0 d) := by
  refine h.trans ⟨rfl, rfl, rfl, ?_, fun i hi => ?_⟩
  · rw [size_putRow]; exact Nat.le_refl _
  · unfold putRow mapBlock
    simp only [Array.getElem?_modify]
    rw [if_neg (by omega)]
theorem holds_rowIs {w : World} {blk n : Nat} {t : TypeId} (d : Array Nat) (hd : d.size = n) (h : w.rowIs blk t n (fun i => encI d[i]!)) : Holds encI w blk 0 d := by
  intro j hj
  rw [Nat.zero_add]
  exact ⟨h.cell (by omega), h.frozen j⟩
/-- The comparison serves whatever the order's row holds. -/
theorem cmpAt_of {w : World} {BR rb cap blk n : Nat} {tr tb : TypeId} (r : Nat → Nat) (hn : n ≤ 1000) (hbox : w.rowIs BR tb 1 (fun _ => .slice (some ⟨rb, 0, none⟩) n cap)) (hrow : w.rowIs rb tr n (fun i => .int .u64 (r i))) (h1 : BR ≠ blk) (h2 : rb ≠ blk) : CmpAt w BR blk n r n := by
  intro m dk hdk x y hx hy
  have g1 := rowIs_putRow_other hbox h1 dk
  have g2 := rowIs_putRow_other hrow h2 dk
  exact less_any BR rb n cap r x y _ ⟨g1.cell (by omega), fun i hi => by rw [Nat.zero_add]; exact g2.cell hi⟩ hx hy hn
theorem rowIs_drewN {w : World} {b : Nat} {t : TypeId} {n : Nat} {f : Nat → Value} (h : w.rowIs b t n f) (k : Nat) : (w.drewN k).rowIs b t n f := h
end Go.Proofs.YtadehobimlpmcaaDoor
