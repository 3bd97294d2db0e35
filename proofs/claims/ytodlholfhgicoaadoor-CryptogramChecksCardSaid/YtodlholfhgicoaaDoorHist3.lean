/- The walk of accept at a counter beyond the greatest one. -/
import Derived.Test.YtodlholfhgicoaaDoorHist2
namespace Go.Proofs.YtodlholfhgicoaaDoor
set_option linter.unusedVariables false
open Go.RowKit Go.Sort

theorem index_arr (cs : Array Value) (k : Nat) (h : k < 64) (v : Value) (hv : cs[k]? = some v) (w : World) : (Instr.index 69 (.agg cs) (.int .i64 (k : Int))).run Tryd.prog w = .ok v w := by
  simp [Instr.index, run_underlying Tryd.underlying69, asIntOf, go_sem, h, hv]
/-- The list of what was accepted. -/
def boolL (f : Nat → Bool) : List Value := (List.range 64).map (fun i => Value.bool (f i))
theorem boolL_len (f : Nat → Bool) : (boolL f).length = 64 := by simp [boolL]
theorem boolL_at (f : Nat → Bool) (k : Nat) (h : k < 64) : (boolL f)[k]? = some (.bool (f k)) := by simp [boolL, h]
theorem range_hist {w : World} {b : Nat} {n : Int} {f : Nat → Bool} {t : TypeId} (h : w.heap[b]? = some (.cells (histC n f) t)) : w.rangeAt b 1 (boolL f) := by
  intro j v hv
  have hj : j < 64 := by rw [← boolL_len f]; exact (List.getElem?_eq_some_iff.1 hv).1
  rw [boolL_at f j hj] at hv
  rw [cell_c h, histC_at n f j hj, ← hv]
theorem info69 (f : Nat → Bool) : (Tryd.prog.info? 69).map (·.size) = some (boolL f).length := by rw [boolL_len]; kernel_rfl
theorem histC_congr {n : Int} {f g : Nat → Bool} (h : ∀ j, j < 64 → f j = g j) : histC n f = histC n g := by
  apply Array.ext_getElem?
  intro j
  rcases Nat.lt_or_ge j 65 with hj | hj
  · rcases Nat.eq_zero_or_pos j with h0 | h0
    · subst h0; rw [histC_0, histC_0]
    · obtain ⟨i, rfl⟩ : ∃ i, j = 1 + i := ⟨j - 1, by omega⟩
      rw [histC_at _ _ i (by omega), histC_at _ _ i (by omega), h i (by omega)]
  · rw [Array.getElem?_eq_none (by rw [histC_size]; omega), Array.getElem?_eq_none (by rw [histC_size]; omega)]
theorem zero_set (c : Int) : Tryd.zeroCells71.setIfInBounds 0 (.int .i64 c) = histC c (fun _ => false) := by
  rw [zero_hist]
  apply Array.ext_getElem?
  intro j
  rw [Array.getElem?_setIfInBounds]
  rcases Nat.lt_or_ge j 65 with hj | hj
  · rcases Nat.eq_zero_or_pos j with h0 | h0
    · subst h0
      rw [if_pos rfl, if_pos (by rw [histC_size]; omega), histC_0]
    · obtain ⟨i, rfl⟩ : ∃ i, j = 1 + i := ⟨j - 1, by omega⟩
      rw [if_neg (by omega), histC_at _ _ i (by omega), histC_at _ _ i (by omega)]
  · rw [if_neg (by omega), Array.getElem?_eq_none (by rw [histC_size]; omega), Array.getElem?_eq_none (by rw [histC_size]; omega)]
/-- What is written after k rounds. -/
def shF (sh k : Nat) (f : Nat → Bool) (j : Nat) : Bool := decide (sh ≤ j) && (decide (j - sh < k) && f (j - sh))
theorem shF_zero (sh : Nat) (f : Nat → Bool) : shF sh 0 f = fun _ => false := by funext j; unfold shF; simp
theorem shF_put (sh k : Nat) (f : Nat → Bool) : (fun i => if i = k + sh then f k else shF sh k f i) = shF sh (k + 1) f := by
  funext i
  unfold shF
  by_cases h : i = k + sh
  · subst h
    rw [if_pos rfl, decide_eq_true (by omega), decide_eq_true (show k + sh - sh < k + 1 by omega), show k + sh - sh = k by omega]; simp
  · rw [if_neg h]
    by_cases h2 : sh ≤ i
    · rw [decide_eq_true h2]
      by_cases h3 : i - sh < k
      · rw [decide_eq_true h3, decide_eq_true (show i - sh < k + 1 by omega)]
      · rw [decide_eq_false h3, decide_eq_false (show ¬ i - sh < k + 1 by omega)]
    · rw [decide_eq_false h2]; rfl
theorem shF_skip (c : Int) (sh k : Nat) (f : Nat → Bool) (h : 63 < k + sh) : histC c (shF sh k f) = histC c (shF sh (k + 1) f) := by
  apply histC_congr
  intro j hj
  rw [← shF_put sh k f]
  show _ = if j = k + sh then f k else shF sh k f j
  rw [if_neg (by omega)]
def accF (sh : Nat) (f : Nat → Bool) (j : Nat) : Bool := if j = 0 then true else decide (sh ≤ j) && f (j - sh)
theorem shF_last (c : Int) (sh : Nat) (f : Nat → Bool) : histC c (fun i => if i = 0 then true else shF sh 64 f i) = histC c (accF sh f) := by
  apply histC_congr
  intro j hj
  unfold accF shF
  split
  · rfl
  · by_cases h : sh ≤ j
    · rw [decide_eq_true h, decide_eq_true (show j - sh < 64 by omega)]; rfl
    · rw [decide_eq_false h]; rfl
/-- The state of the loop. -/
structure AccW (w wr : World) (c : Int) (g : Nat → Bool) : Prop where
  res : wr.heap[w.heap.size + 1]? = some (.cells Tryd.zeroCells71 71)
  nxt : wr.heap[w.heap.size + 1 + 1]? = some (.cells (histC c g) 71)
  bel : Below w.heap.size w wr
theorem AccW.set {w wr : World} {c : Int} {g : Nat → Bool} (h : AccW w wr c g) (d : Nat) (b : Bool) (hd : d < 64) : AccW w (wr.setCell ⟨w.heap.size + 1 + 1, 1 + d, none⟩ (.bool b)) c (fun i => if i = d then b else g i) :=
  ⟨by rw [heap_setCell_other _ _ _ _ (by simp)]; exact h.res, by rw [heap_setCell_same _ _ _ _ _ _ h.nxt, histC_set c g d b hd], h.bel.setCell (p := ⟨w.heap.size + 1 + 1, 1 + d, none⟩) (by simp; omega) _⟩
theorem acc_facts (w W2 : World) (n c : Int) (f : Nat → Bool) (sh : Nat) (hW2 : (w.alloc (.cells (histC n f) 71)).alloc (.cells Tryd.zeroCells71 71) = W2) :
    W2.cell? ⟨w.heap.size, 0, none⟩ = some (.int .i64 n) ∧ (W2.alloc (.cells Tryd.zeroCells71 71)).heap[w.heap.size + 1 + 1]? = some (.cells Tryd.zeroCells71 71) ∧
    ((W2.alloc (.cells Tryd.zeroCells71 71)).setRow (w.heap.size + 1 + 1) (histC c (fun _ => false))).heap[w.heap.size]? = some (.cells (histC n f) 71) ∧
    AccW w ((W2.alloc (.cells Tryd.zeroCells71 71)).setRow (w.heap.size + 1 + 1) (histC c (fun _ => false))) c (shF sh 0 f) := by
  have hA := heap_alloc2_old w (.cells (histC n f) 71) (.cells Tryd.zeroCells71 71)
  have hB := heap_alloc2_new w (.cells (histC n f) 71) (.cells Tryd.zeroCells71 71)
  have hbe : Below w.heap.size w ((w.alloc (.cells (histC n f) 71)).alloc (.cells Tryd.zeroCells71 71)) := (alloc_lt _ _).alloc (by simp) _
  have hsz : ((w.alloc (.cells (histC n f) 71)).alloc (.cells Tryd.zeroCells71 71)).heap.size = w.heap.size + 1 + 1 := by simp
  rw [hW2] at hA hB hbe hsz
  have hC : (W2.alloc (.cells Tryd.zeroCells71 71)).heap[w.heap.size + 1 + 1]? = some (.cells Tryd.zeroCells71 71) := by
    have := (MapKept.heap_alloc W2 (.cells Tryd.zeroCells71 71)).1
    rwa [hsz] at this
  have hA3 := blk_later hA (alloc_lt W2 (.cells Tryd.zeroCells71 71))
  have hB3 := blk_later hB (alloc_lt W2 (.cells Tryd.zeroCells71 71))
  have hb3 : Below w.heap.size w (W2.alloc (.cells Tryd.zeroCells71 71)) := hbe.alloc (by omega) _
  refine ⟨by rw [cell_c hA, histC_0], hC, by rw [setRow_other _ _ _ _ (by omega)]; exact hA3, by rw [setRow_other _ _ _ _ (by omega)]; exact hB3, ?_, below_setRow hb3 (by omega) _⟩
  rw [shF_zero]; exact setRow_heap _ _ _ _ _ _ hC
set_option maxRecDepth 100000 in
set_option maxHeartbeats 3200000 in
theorem acc_high (n : Int) (f : Nat → Bool) (c : Int) (w : World) (sh : Nat) (hd : c - n = (sh : Int)) (h1 : 1 ≤ sh) (hn : 0 ≤ n) (hn2 : c ≤ 1000000) :
    Calls Tryd.prog 38 #[.agg (histC n f), .int .i64 c] w fun e w' => e = .returned (.agg (histC c (accF sh f))) ∧ Below w.heap.size w w' := by
  have hcn : ¬ c ≤ n := by omega
  have hsh : sh ≤ 1000000 := by omega
  have hz0 := zero_set c
  obtain ⟨c0, hC, hA4, hst⟩ := acc_facts w _ n c f sh rfl
  have d0 := cell_c hA4 0
  rw [histC_0] at d0
  have HC := Lib.hid hC
  have HR := Lib.hid (range_hist hA4)
  have HST := Lib.hid hst
  have HIX := Lib.hid (fun k (h : k < 64) => index_arr (boolL f).toArray k h (.bool (f k)) (by rw [List.getElem?_toArray]; exact boolL_at f k h))
  clear hC hA4 hst
  go_enter Tryd.func38, Tryd.ntmps38
  go_wp2_with (first | (refine wpList_store_row rfl 71 _ _ rfl (w.heap.size + 1 + 1) (histC c (fun _ => false)) rfl rfl 71 _ HC.out (info71h c _) (by rw [histC_size, zero_hist, histC_size]) (histC_one c _) ?_) | (refine wpList_load_mid rfl 69 _ rfl w.heap.size 1 rfl (boolL f) _ HR.out Tryd.underlying69 rfl (info69 f) ?_))
  generalize ((((w.alloc (.cells (histC n f) 71)).alloc (.cells Tryd.zeroCells71 71)).alloc (.cells Tryd.zeroCells71 71)).setRow (w.heap.size + 1 + 1) (histC c (fun _ => false))) = W3 at *
  go_loopw [28, 7, 8] (fun i _ _ wr => ∃ k : Nat, k ≤ 64 ∧ i = .int .i64 k ∧ Hid (AccW w wr c (shF sh k f))) (fun i _ _ _ => 64 - (intOf i).toNat)
  case atStart => exact ⟨0, by omega, rfl, HST⟩
  case round =>
    obtain ⟨k, hk, rfl, hs⟩ := hrel
    by_cases hlt : k < 64
    · have hix := HIX.out k hlt
      have hkI : (k : Int) < 64 := by omega
      by_cases hin : k + sh ≤ 63
      · have hinI : (k : Int) + (sh : Int) ≤ 63 := by omega
        have ci := cell_c hs.out.nxt (1 + (k + sh))
        rw [histC_at _ _ _ (by omega)] at ci
        have fi := cell_f hs.out.nxt (1 + (k + sh))
        have hnx := hs.out.set (k + sh) (f k) (by omega)
        rw [shF_put] at hnx
        have HNX := Lib.hid hnx
        clear hnx
        go_wp2_with fail
        go_roundw
        case rel => exact ⟨k + 1, by omega, by go_num, HNX⟩
        case measure => simp [intOf]; omega
      · have hinI : ¬ (k : Int) + (sh : Int) ≤ 63 := by omega
        have HNX : Hid (AccW w wr c (shF sh (k + 1) f)) := Lib.hid ⟨hs.out.res, by rw [← shF_skip c sh k f (by omega)]; exact hs.out.nxt, hs.out.bel⟩
        go_wp2_with fail
        go_roundw
        case rel => exact ⟨k + 1, by omega, by go_num, HNX⟩
        case measure => simp [intOf]; omega
    · obtain rfl : k = 64 := by omega
      have ci := cell_c hs.out.nxt (1 + 0)
      rw [histC_at _ _ _ (by omega)] at ci
      have fi := cell_f hs.out.nxt (1 + 0)
      have hnx := hs.out.set 0 true (by omega)
      have hN := hnx.nxt
      rw [shF_last] at hN
      have HN := Lib.hid hN
      have HRS := Lib.hid hnx.res
      have HBL := Lib.hid hnx.bel
      rw [Nat.add_zero] at ci fi HN HRS HBL
      clear hnx hN
      go_wp2_with (first | (refine wpList_load_row rfl 71 _ rfl (w.heap.size + 1 + 1) rfl 71 _ _ _ HN.out Tryd.underlying71 rfl (info71h c _) ?_) | (refine wpList_store_row rfl 71 _ _ rfl (w.heap.size + 1) (histC c (accF sh f)) rfl rfl 71 _ HRS.out (info71h c _) (by rw [histC_size, zero_hist, histC_size]) (histC_one c _) ?_))
      refine bodyPost_ret (v := .agg (histC c (accF sh f))) ?_ rfl ?_
      · exact results_cell_row (show Tryd.f38.results = #[.cell 4 71] by kernel_rfl) _ _ (w.heap.size + 1) 71 (histC c (accF sh f)) (0, 0) _ rfl (setRow_heap _ _ _ _ _ _ HRS.out) Tryd.underlying71 rfl (info71h c _)
      · exact ⟨rfl, below_setRow HBL.out (by omega) _⟩
end Go.Proofs.YtodlholfhgicoaaDoor
