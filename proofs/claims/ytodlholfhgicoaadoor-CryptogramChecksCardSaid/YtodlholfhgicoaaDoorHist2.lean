/- The walk of accept. -/
import Derived.Test.YtodlholfhgicoaaDoorHist
import Derived.Laws.CopyOwn
namespace Go.Proofs.YtodlholfhgicoaaDoor
set_option linter.unusedVariables false
open Go.RowKit Go.Sort

theorem zero_hist : Tryd.zeroCells71 = histC 0 (fun _ => false) := by kernel_rfl
theorem histC_set (n : Int) (f : Nat → Bool) (d : Nat) (b : Bool) (h : d < 64) : (histC n f).setIfInBounds (1 + d) (.bool b) = histC n (fun i => if i = d then b else f i) := by
  apply Array.ext_getElem?
  intro j
  rw [Array.getElem?_setIfInBounds]
  rcases Nat.lt_or_ge j 65 with hj | hj
  · rcases Nat.eq_zero_or_pos j with h0 | h0
    · subst h0
      rw [if_neg (by omega), histC_0, histC_0]
    · obtain ⟨i, rfl⟩ : ∃ i, j = 1 + i := ⟨j - 1, by omega⟩
      by_cases hi : i = d
      · subst hi
        rw [if_pos rfl, if_pos (by rw [histC_size]; omega), histC_at _ _ i (by omega), if_pos rfl]
      · rw [if_neg (by omega), histC_at _ _ i (by omega), histC_at _ _ i (by omega), if_neg hi]
  · rw [if_neg (by omega), Array.getElem?_eq_none (by rw [histC_size]; omega), Array.getElem?_eq_none (by rw [histC_size]; omega)]
theorem histC_one (n : Int) (f : Nat → Bool) : (histC n f).all (·.oneCell') = true := by
  rw [Array.all_eq_true_iff_forall_mem]
  intro v hv
  unfold histC at hv
  simp only [Array.mem_append, Array.mem_map] at hv
  rcases hv with hv | ⟨i, _, rfl⟩
  · simp at hv; subst hv; rfl
  · rfl
theorem info71 : (Tryd.prog.info? 71).map (·.size) = some 65 := by kernel_rfl
theorem info71h (n : Int) (f : Nat → Bool) : (Tryd.prog.info? 71).map (·.size) = some (histC n f).size := by rw [histC_size]; exact info71
set_option maxRecDepth 100000 in
set_option maxHeartbeats 1600000 in
theorem acc_low (n : Int) (f : Nat → Bool) (c : Int) (w : World) (d : Nat) (hd : n - c = (d : Int)) (hd64 : d < 64) (hn : 0 ≤ n) (hn2 : n ≤ 1000000) :
    Calls Tryd.prog 38 #[.agg (histC n f), .int .i64 c] w fun e w' => e = .returned (.agg (histC n (fun i => if i = d then true else f i))) ∧ Below w.heap.size w w' := by
  have h1 : c ≤ n := by omega
  have hW : ((w.alloc (.cells (histC n f) 71)).alloc (.cells Tryd.zeroCells71 71)).heap[w.heap.size]? = some (.cells (histC n f) 71) := heap_alloc2_old w _ _
  have c0 : ((w.alloc (.cells (histC n f) 71)).alloc (.cells Tryd.zeroCells71 71)).cell? ⟨w.heap.size, 0, none⟩ = some (.int .i64 n) := by rw [cell_c hW, histC_0]
  have c1 : ((w.alloc (.cells (histC n f) 71)).alloc (.cells Tryd.zeroCells71 71)).cell? ⟨w.heap.size, 1 + d, none⟩ = some (.bool (f d)) := by rw [cell_c hW, histC_at n f d hd64]
  have f1 : ((w.alloc (.cells (histC n f) 71)).alloc (.cells Tryd.zeroCells71 71)).frozen? ⟨w.heap.size, 1 + d, none⟩ = false := cell_f hW _
  have hdI : (d : Int) < 64 := by omega
  have hd0 : (0 : Int) ≤ (d : Int) := by omega
  have hset := histC_set n f d true hd64
  obtain ⟨f', hf'⟩ : ∃ f' : Nat → Bool, (fun i => if i = d then true else f i) = f' := ⟨_, rfl⟩
  rw [hf'] at hset ⊢
  have HL := Lib.hid (heap_alloc2_old w (.cells (histC n f') 71) (.cells Tryd.zeroCells71 71))
  have HS := Lib.hid (heap_alloc2_new w (.cells (histC n f') 71) (.cells Tryd.zeroCells71 71))
  have HB : Hid (Below w.heap.size w (((w.alloc (.cells (histC n f') 71)).alloc (.cells Tryd.zeroCells71 71)).setRow (w.heap.size + 1) (histC n f'))) := Lib.hid (below_setRow ((alloc_lt _ _).alloc (by simp) _) (by omega) _)
  clear hW hf'
  go_enter Tryd.func38, Tryd.ntmps38
  go_wp2_with (first | (refine wpList_load_row rfl 71 _ rfl w.heap.size rfl 71 _ _ _ HL.out Tryd.underlying71 rfl (info71h n f') ?_) | (refine wpList_store_row rfl 71 _ _ rfl (w.heap.size + 1) (histC n f') rfl rfl 71 _ HS.out (info71h n f') (by rw [histC_size, zero_hist, histC_size]) (histC_one n f') ?_))
  refine bodyPost_ret (v := .agg (histC n f')) ?_ rfl ?_
  · exact results_cell_row (show Tryd.f38.results = #[.cell 4 71] by kernel_rfl) _ _ (w.heap.size + 1) 71 (histC n f') (0, 0) _ rfl (setRow_heap _ _ _ _ _ _ HS.out) Tryd.underlying71 rfl (info71h n f')
  · exact ⟨rfl, HB.out⟩
end Go.Proofs.YtodlholfhgicoaaDoor
