/- The walks of Marginal and Fee: loops over the spans. -/
import Derived.Test.YtfhiepcjkocnlaaItr
import Derived.Test.YtfhiepcjkocnlaaChk
namespace Go.Proofs.Ytfhiepcjkocnlaa
set_option linter.unusedVariables false
open Go.RowKit Go.Shelf
attribute [local go_sem] Oper.semAt_some

set_option maxHeartbeats 1000000 in
theorem spans_in (F : Fence) (n : Nat) (h26 : F.fn 26) (hro : F.round = none) (A : Option Addr) (len cap : Nat) (c : Int) (w : World) :
    CallsIn F n Try.prog 26 #[.slice A len cap, .int .i64 c] w fun e w' => e = .returned (.func (.func 38) #[] #[.pointer (some ⟨w.heap.size, 0, none⟩), .pointer (some ⟨w.heap.size + 1, 0, none⟩)]) ∧ w' = (w.alloc (.cells #[.slice A len cap] 22)).alloc (.cells #[.int .i64 c] 2) := by
  refine callsIn_of_wp Try.func26 rfl h26 ?_ hro
  simp only [Try.ntmps26, List.size_toArray, List.length_cons, List.length_nil, Nat.reduceAdd, Nat.reduceSub, Array.replicate_succ, Array.replicate_zero, List.push_toArray, List.append_toArray, List.nil_append, List.cons_append]
  gi_wp2
  go_ret
  exact ⟨rfl, rfl⟩
theorem kp2_t {n₀ BL BC : Nat} {A B C : World} (h : Kp2 n₀ BL BC A B) (k : Kp2 n₀ BL BC B C) : Kp2 n₀ BL BC A C := h.trans k
theorem kp2_b {n₀ BL BC : Nat} {w : World} (hn : n₀ ≤ w.heap.size) (h1 : BL < w.heap.size) (h2 : BC < w.heap.size) (W : World) (l : Nat) (o o' : Obj) (hl : w.heap.size ≤ l) (h : W.heap[l]? = some o) (hc : o.isCells = false) (hw : o.isWalk = false) : Kp2 n₀ BL BC W (W.putObj l o') :=
  have hb (m : Nat) (hm : m ≤ w.heap.size) : Below m W (W.putObj l o') := belowK_b hm W l o o' hl h hc hw
  ⟨hb n₀ hn, (hb (BL + 1) h1).cell (p := ⟨BL, 0, none⟩) (Nat.lt_succ_self _), (hb (BC + 1) h2).cell (p := ⟨BC, 0, none⟩) (Nat.lt_succ_self _)⟩
/-- What the iterator's value promises. -/
theorem spans_stops (F : Fence) (n : Nat) (h38 : F.fn 38) (hro : F.round = none) (hn : 1 ≤ n) (BL BC n₀ b off cap : Nat) (l : List Tr) (c : Int) (hok : okT l) (hup : upT l) (hl : l.length ≤ 1000000) (q1 : 0 ≤ c) (q2 : c ≤ 1000000000) (hb : b < n₀) (w : World) (hn₀ : n₀ ≤ w.heap.size)
    (hBL : w.cell? ⟨BL, 0, none⟩ = some (.slice (some ⟨b, off, none⟩) l.length cap)) (hBC : w.cell? ⟨BC, 0, none⟩ = some (.int .i64 c)) (hc : ∀ j v, (cellsT l)[j]? = some v → w.cell? ⟨b, off + j, none⟩ = some v) :
    SeqStopsK F n Try.prog 38 #[.pointer (some ⟨BL, 0, none⟩), .pointer (some ⟨BC, 0, none⟩)] (fun x : Int × Int => #[Value.int .i64 x.1, Value.int .i64 x.2]) (Kp2 n₀ BL BC) (fun ys => ∃ k, SpanEnd l c k ∧ ys = upto (spanF l c) k) (fun _ => True) l.length w :=
  fun L J Jx W hW hJ _ hY h0 =>
    spans1_in F n h38 hro hn L BL BC n₀ b off cap l c hok hup hl q1 q2 hb J Jx W hJ hY
      ((hW.cell (p := ⟨BL, 0, none⟩) (World.block_lt_of_cell? w _ hBL)).trans hBL) ((hW.cell (p := ⟨BC, 0, none⟩) (World.block_lt_of_cell? w _ hBC)).trans hBC) (Nat.le_trans hn₀ hW.size)
      (fun j v hj => (hW.cell (p := ⟨b, off + j, none⟩) (Nat.lt_of_lt_of_le hb hn₀)).trans (hc j v hj)) h0
set_option maxRecDepth 100000 in
set_option maxHeartbeats 4000000 in
theorem marg_ok (b off cap : Nat) (l : List Tr) (n : Int) (w : World) (hz : chkE l = 0) (hup : upT l) (hl : l.length ≤ 1000000) (q1 : 1 ≤ n) (q2 : n ≤ 1000000000) (hb : b < w.heap.size)
    (hck : Calls Try.prog 16 #[.slice (some ⟨b, off, none⟩) l.length cap] w fun e w' => e = .returned (.int .i64 0) ∧ Below w.heap.size w w')
    (hc : ∀ j v, (cellsT l)[j]? = some v → w.cell? ⟨b, off + j, none⟩ = some v) :
    Calls Try.prog 13 #[.slice (some ⟨b, off, none⟩) l.length cap, .int .i64 n] w fun e w' => e = .returned (.tuple #[.int .i64 (margL l n 0), .int .i64 0]) ∧ Below w.heap.size w w' := by
  have hok := okT_of_chk hz
  have HCK := Lib.hid hck
  have HC := Lib.hid hc
  clear hck hc
  refine (callsIn_wide (n := 5)).1 ?_
  refine callsIn_of_wp_marks Try.func13 rfl trivial ?_ rfl
  simp only [Try.ntmps13, List.size_toArray, List.length_cons, List.length_nil, Nat.reduceAdd, Nat.reduceSub, Array.replicate_succ, Array.replicate_zero, List.push_toArray, List.append_toArray, List.nil_append, List.cons_append]
  gi_wp2_with fail
  refine ⟨trivial, (callsIn_wide.2 HCK.out).mono ?_⟩
  rintro e w1 ⟨rfl, hb1⟩
  have HB1 := Lib.hid hb1
  have hsz1 := hb1.size
  clear hb1
  gi_wp2_with fail
  refine ⟨trivial, (spans_in Fence.wide 4 trivial rfl _ _ _ _ _).mono ?_⟩
  rintro e w' ⟨rfl, rfl⟩
  gi_wp2_with fail
  obtain ⟨H, hH⟩ : ∃ H, w1.heap.size = H := ⟨_, rfl⟩
  have hbH : b < H := by omega
  have hB3 : Below H w1 (((w1.alloc (.cells #[.int .i64 0] 2)).alloc (.cells #[.slice (some ⟨b, off, none⟩) l.length cap] 22)).alloc (.cells #[.int .i64 n] 2)) := by
    rw [← hH]
    exact (((Below.refl _ w1).alloc (Nat.le_refl _) _).alloc (by simp) _).alloc (by simp; omega) _
  have hcell : ∀ j v, (cellsT l)[j]? = some v → (((w1.alloc (.cells #[.int .i64 0] 2)).alloc (.cells #[.slice (some ⟨b, off, none⟩) l.length cap] 22)).alloc (.cells #[.int .i64 n] 2)).cell? ⟨b, off + j, none⟩ = some v := fun j v hj =>
    (hB3.cell (p := ⟨b, off + j, none⟩) hbH).trans ((HB1.out.cell (p := ⟨b, off + j, none⟩) hb).trans (HC.out j v hj))
  have bS := Boxed.new w1 2 (.int .i64 0)
  have bL := Boxed.new (w1.alloc (.cells #[.int .i64 0] 2)) 22 (.slice (some ⟨b, off, none⟩) l.length cap)
  have bC := Boxed.new ((w1.alloc (.cells #[.int .i64 0] 2)).alloc (.cells #[.slice (some ⟨b, off, none⟩) l.length cap] 22)) 2 (.int .i64 n)
  rw [World.size_alloc] at bL
  rw [World.size_alloc, World.size_alloc] at bC
  have bL1 := (bL.alloc (.cells #[.int .i64 n] 2)).cell
  have bS1 := (bS.alloc (.cells #[.slice (some ⟨b, off, none⟩) l.length cap] 22)).alloc (.cells #[.int .i64 n] 2)
  rw [hH] at bS bL bC bL1 bS1
  obtain ⟨W0, hW0⟩ : ∃ W0, (((w1.alloc (.cells #[.int .i64 0] 2)).alloc (.cells #[.slice (some ⟨b, off, none⟩) l.length cap] 22)).alloc (.cells #[.int .i64 n] 2)) = W0 := ⟨_, rfl⟩
  have hs0 : W0.heap.size = H + 3 := by rw [← hW0]; simp; omega
  rw [hW0] at hB3 hcell bL1 bC bS1 ⊢
  rw [hH]
  have HB1' := HB1
  refine wpIn_rangeFunc_ownG rfl (by omega) (gf := 38) (lb := #[.pointer (some ⟨H + 1, 0, none⟩), .pointer (some ⟨H + 1 + 1, 0, none⟩)]) rfl trivial (enters_of Try.func38 (by kernel_rfl) rfl)
    (spans_stops Fence.wide 4 trivial rfl (by omega) (H + 1) (H + 1 + 1) H b off cap l n hok hup hl (by omega) q2 hbH W0 (by omega) bL1 bC.cell hcell) kp2_t (kp2_b (by omega) (by omega) (by omega)) (Below.refl _ _) (fun _ => rfl)
    (fun pre W => (W.cell? ⟨H, 0, none⟩ = some (.int .i64 (lastP pre)) ∧ W.frozen? ⟨H, 0, none⟩ = false) ∧ Below H w1 W)
    (fun _ _ _ => False)
    (OwnFrom.and (Own.from (fun s A B row hs hg hr => ⟨cell_kept hs.1 hg hr, (frozen_kept hs.1 hg hr).trans hs.2⟩) _) (ownFrom_below (by omega) (by omega)))
    (fun _ _ _ _ _ hs _ _ => hs)
    ⟨⟨bS1.cell, bS1.frozen⟩, hB3⟩
    (fun x => { tmps := #[.slice (some ⟨b, off, none⟩) l.length cap, .int .i64 n, undef, undef, .int .i64 0, .int .i64 0, .int .i64 0, .pointer (some ⟨H, 0, none⟩), undef, .int .i64 x.2, .slice (some ⟨b, off, none⟩) l.length cap, .int .i64 0, .int .i64 0, .bool false, undef, .int .i64 n, .bool (decide (n < 1)), .bool (decide (n < 1)), .int .i64 n, .bool (decide (1000000000 < n)), .bool (decide (n < 1) || decide (1000000000 < n)), .slice (some ⟨b, off, none⟩) l.length cap, .int .i64 n, .func (.func 38) #[] #[.pointer (some ⟨H + 1, 0, none⟩), .pointer (some ⟨H + 1 + 1, 0, none⟩)], .int .i64 x.1, .int .i64 x.2, undef, undef], defers := [] }) ?assign ?body ?done ?stop
  case assign =>
    intro l x W K hK
    gi_wp2
    exact hK
  case body =>
    rintro l' pre x W ⟨⟨hcc, hf⟩, hB⟩ _
    have hLe : (⟨H + 1, 0, none⟩ : Addr).block ≠ (⟨H, 0, none⟩ : Addr).block := by simp
    gi_wp2
    refine ⟨(KeepsOthers.setCell _ _ _).from _, ⟨(Below.refl H W).setCell (p := ⟨H, 0, none⟩) (Nat.le_refl _) _, ?_, ?_⟩, ⟨by rw [lastP_snoc]; exact World.cell?_setCell_same' _ _ _ (by rw [hcc]; rfl), by rw [World.frozen?_setCell]; exact hf⟩, hB.setCell (p := ⟨H, 0, none⟩) (Nat.le_refl _) _⟩
    · exact World.cell?_setCell_other _ _ _ _ (by simp)
    · exact World.cell?_setCell_other _ _ _ _ (by simp)
  case done =>
    rintro D ys W hD ⟨k, hk, rfl⟩ ⟨⟨hcc, _⟩, hB⟩ hK
    gi_wp2
    refine ⟨by simp, .inl ⟨_, _, rfl, run_takeDeferred hK, ?_⟩⟩
    refine ⟨_, results_tmp2 rfl _ _ _, ?_, ?_⟩
    · rw [last_spans hk]; rfl
    · exact HB1.out.trans ((hB.trans (belowK_b (w := W0) (by omega) W D _ _ (by omega) hK rfl rfl)).mono (by omega))
  case stop =>
    rintro D c pre W _ _ h _
    exact h.elim
set_option maxRecDepth 100000 in
set_option maxHeartbeats 4000000 in
theorem fee_ok (b off cap : Nat) (l : List Tr) (n : Int) (w : World) (hz : chkE l = 0) (hup : upT l) (hl : l.length ≤ 1000000) (q1 : 0 ≤ n) (q2 : n ≤ 1000000000) (hb : b < w.heap.size)
    (hck : Calls Try.prog 16 #[.slice (some ⟨b, off, none⟩) l.length cap] w fun e w' => e = .returned (.int .i64 0) ∧ Below w.heap.size w w')
    (hc : ∀ j v, (cellsT l)[j]? = some v → w.cell? ⟨b, off + j, none⟩ = some v) :
    Calls Try.prog 11 #[.slice (some ⟨b, off, none⟩) l.length cap, .int .i64 n] w fun e w' => e = .returned (.tuple #[.int .i64 (feeV l n), .int .i64 (feeE l n)]) ∧ Below w.heap.size w w' := by
  have hok := okT_of_chk hz
  have HCK := Lib.hid hck
  have HC := Lib.hid hc
  clear hck hc
  refine (callsIn_wide (n := 5)).1 ?_
  refine callsIn_of_wp_marks Try.func11 rfl trivial ?_ rfl
  simp only [Try.ntmps11, List.size_toArray, List.length_cons, List.length_nil, Nat.reduceAdd, Nat.reduceSub, Array.replicate_succ, Array.replicate_zero, List.push_toArray, List.append_toArray, List.nil_append, List.cons_append]
  gi_wp2_with fail
  refine ⟨trivial, (callsIn_wide.2 HCK.out).mono ?_⟩
  rintro e w1 ⟨rfl, hb1⟩
  have HB1 := Lib.hid hb1
  have hsz1 := hb1.size
  clear hb1
  gi_wp2_with fail
  refine ⟨trivial, (spans_in Fence.wide 4 trivial rfl _ _ _ _ _).mono ?_⟩
  rintro e w' ⟨rfl, rfl⟩
  gi_wp2_with fail
  obtain ⟨H, hH⟩ : ∃ H, w1.heap.size = H := ⟨_, rfl⟩
  have hbH : b < H := by omega
  have hB3 : Below H w1 (((w1.alloc (.cells #[.int .i64 0] 2)).alloc (.cells #[.slice (some ⟨b, off, none⟩) l.length cap] 22)).alloc (.cells #[.int .i64 n] 2)) := by
    rw [← hH]
    exact (((Below.refl _ w1).alloc (Nat.le_refl _) _).alloc (by simp) _).alloc (by simp; omega) _
  have hcell : ∀ j v, (cellsT l)[j]? = some v → (((w1.alloc (.cells #[.int .i64 0] 2)).alloc (.cells #[.slice (some ⟨b, off, none⟩) l.length cap] 22)).alloc (.cells #[.int .i64 n] 2)).cell? ⟨b, off + j, none⟩ = some v := fun j v hj =>
    (hB3.cell (p := ⟨b, off + j, none⟩) hbH).trans ((HB1.out.cell (p := ⟨b, off + j, none⟩) hb).trans (HC.out j v hj))
  have bS := Boxed.new w1 2 (.int .i64 0)
  have bL := Boxed.new (w1.alloc (.cells #[.int .i64 0] 2)) 22 (.slice (some ⟨b, off, none⟩) l.length cap)
  have bC := Boxed.new ((w1.alloc (.cells #[.int .i64 0] 2)).alloc (.cells #[.slice (some ⟨b, off, none⟩) l.length cap] 22)) 2 (.int .i64 n)
  rw [World.size_alloc] at bL
  rw [World.size_alloc, World.size_alloc] at bC
  have bL1 := (bL.alloc (.cells #[.int .i64 n] 2)).cell
  have bS1 := (bS.alloc (.cells #[.slice (some ⟨b, off, none⟩) l.length cap] 22)).alloc (.cells #[.int .i64 n] 2)
  rw [hH] at bS bL bC bL1 bS1
  obtain ⟨W0, hW0⟩ : ∃ W0, (((w1.alloc (.cells #[.int .i64 0] 2)).alloc (.cells #[.slice (some ⟨b, off, none⟩) l.length cap] 22)).alloc (.cells #[.int .i64 n] 2)) = W0 := ⟨_, rfl⟩
  have hs0 : W0.heap.size = H + 3 := by rw [← hW0]; simp; omega
  rw [hW0] at hB3 hcell bL1 bC bS1 ⊢
  rw [hH]
  have HB1' := HB1
  refine wpIn_rangeFunc_ownG rfl (by omega) (gf := 38) (lb := #[.pointer (some ⟨H + 1, 0, none⟩), .pointer (some ⟨H + 1 + 1, 0, none⟩)]) rfl trivial (enters_of Try.func38 (by kernel_rfl) rfl)
    (spans_stops Fence.wide 4 trivial rfl (by omega) (H + 1) (H + 1 + 1) H b off cap l n hok hup hl q1 q2 hbH W0 (by omega) bL1 bC.cell hcell) kp2_t (kp2_b (by omega) (by omega) (by omega)) (Below.refl _ _) (fun _ => rfl)
    (fun pre W => (W.cell? ⟨H, 0, none⟩ = some (.int .i64 (sumW pre)) ∧ W.frozen? ⟨H, 0, none⟩ = false) ∧ Below H w1 W)
    (fun _ _ _ => False)
    (OwnFrom.and (Own.from (fun s A B row hs hg hr => ⟨cell_kept hs.1 hg hr, (frozen_kept hs.1 hg hr).trans hs.2⟩) _) (ownFrom_below (by omega) (by omega)))
    (fun _ _ _ _ _ hs _ _ => hs)
    ⟨⟨bS1.cell, bS1.frozen⟩, hB3⟩
    (fun x => { tmps := #[.slice (some ⟨b, off, none⟩) l.length cap, .int .i64 n, undef, undef, .int .i64 0, .int .i64 0, .int .i64 0, .pointer (some ⟨H, 0, none⟩), .int .i64 x.1, .int .i64 x.2, undef, .slice (some ⟨b, off, none⟩) l.length cap, .int .i64 0, .int .i64 0, .bool false, undef, .int .i64 n, .bool (decide (n < 0)), .bool (decide (n < 0)), .int .i64 n, .bool (decide (1000000000 < n)), .bool (decide (n < 0) || decide (1000000000 < n)), .slice (some ⟨b, off, none⟩) l.length cap, .int .i64 n, .func (.func 38) #[] #[.pointer (some ⟨H + 1, 0, none⟩), .pointer (some ⟨H + 1 + 1, 0, none⟩)], .int .i64 x.1, .int .i64 x.2, undef, undef, undef, undef, undef, undef, undef, undef, undef, undef, undef], defers := [] }) ?assign ?body ?done ?stop
  case assign =>
    intro l x W K hK
    gi_wp2
    exact hK
  case body =>
    rintro l' pre x W ⟨⟨hcc, hf⟩, hB⟩ _
    have hLe : (⟨H + 1, 0, none⟩ : Addr).block ≠ (⟨H, 0, none⟩ : Addr).block := by simp
    gi_wp2
    refine ⟨(KeepsOthers.setCell _ _ _).from _, ⟨(Below.refl H W).setCell (p := ⟨H, 0, none⟩) (Nat.le_refl _) _, ?_, ?_⟩, ⟨by rw [sumW_snoc]; exact World.cell?_setCell_same' _ _ _ (by rw [hcc]; rfl), by rw [World.frozen?_setCell]; exact hf⟩, hB.setCell (p := ⟨H, 0, none⟩) (Nat.le_refl _) _⟩
    · exact World.cell?_setCell_other _ _ _ _ (by simp)
    · exact World.cell?_setCell_other _ _ _ _ (by simp)
  case done =>
    rintro D ys W hD ⟨k, hk, rfl⟩ ⟨⟨hcc, _⟩, hB⟩ hK
    obtain ⟨e1, e2, e3⟩ := sum_spans hok q1 q2 hk
    have hfv := fee_val hz q1 q2 rfl e2
    rw [e1] at hcc
    obtain ⟨S, hS⟩ : ∃ S, feeS l n 0 = S := ⟨_, rfl⟩
    rw [hS] at hcc e2 e3 hfv
    clear e1 hS
    by_cases hm : 4503599627370496 < (S + 50) / 100
    · have h2 := Lib.hid (hfv.1 hm)
      clear hfv
      gi_wp2
      refine ⟨by simp, .inl ⟨_, _, rfl, run_takeDeferred hK, ?_⟩⟩
      refine ⟨_, results_tmp2 rfl _ _ _, ?_, HB1.out.trans ((hB.trans (belowK_b (w := W0) (by omega) W D _ _ (by omega) hK rfl rfl)).mono (by omega))⟩
      rw [h2.out.1, h2.out.2]; rfl
    · have h3 := Lib.hid (hfv.2 (by omega))
      clear hfv
      gi_wp2
      refine ⟨by simp, .inl ⟨_, _, rfl, run_takeDeferred hK, ?_⟩⟩
      refine ⟨_, results_tmp2 rfl _ _ _, ?_, HB1.out.trans ((hB.trans (belowK_b (w := W0) (by omega) W D _ _ (by omega) hK rfl rfl)).mono (by omega))⟩
      rw [h3.out.1, h3.out.2]; rfl
  case stop =>
    rintro D c pre W _ _ h _
    exact h.elim
set_option maxHeartbeats 1600000 in
theorem marg_any (A : Option Addr) (c : Nat) (l : List Tr) (n : Int) (w : World) (hr : IsRow w A (cellsT l)) (hl : l.length ≤ 1000000) (hup : upT l) :
    Calls Try.prog 13 #[.slice A l.length c, .int .i64 n] w fun e w' => e = .returned (.tuple #[.int .i64 (margV l n), .int .i64 (margE l n)]) ∧ Below w.heap.size w w' := by
  have hck := Lib.hid (check_any A c l w hr hl)
  obtain ⟨ce, hce⟩ : ∃ ce, chkE l = ce := ⟨_, rfl⟩
  rw [hce] at hck
  by_cases hz : ce = 0
  · by_cases hn : n < 1 ∨ 1000000000 < n
    · have hE := Lib.hid (show margE l n = 4 by unfold margE; rw [hce, if_pos hz, if_pos hn])
      have hV := Lib.hid (show margV l n = 0 by unfold margV; rw [hE.out, if_neg (by omega)])
      have hzb : (ce != 0) = false := by simp only [bne_eq_false_iff_eq]; exact hz
      have hcase : n < 1 ∨ (1 ≤ n ∧ 1000000000 < n) := by omega
      clear hr hn hce
      rcases hcase with q | ⟨q, q'⟩
      all_goals
        go_enter Try.func13, Try.ntmps13
        go_wp2_with fail
        refine hck.out.mono ?_
        rintro e w1 ⟨rfl, hb⟩
        have HB := Lib.hid hb
        clear hb
        go_wp2_with fail
        go_ret2
        exact ⟨by rw [hE.out, hV.out]; rfl, HB.out⟩
    · have h0 := hck.out
      rw [hz] at h0
      rcases hr with h1 | ⟨b, off, rfl, hc⟩
      · rw [cellsT_length] at h1
        rw [chkE_0 (by omega)] at hce
        omega
      have hpos : 0 < l.length := by
        rcases Nat.eq_zero_or_pos l.length with h1 | h1
        · rw [chkE_0 h1] at hce
          omega
        · exact h1
      have hb : b < w.heap.size := World.block_lt_of_cell? w _ (row_tier hc 0 hpos).1
      refine (marg_ok b off c l n w (hce.trans hz) hup hl (by omega) (by omega) hb h0 hc).mono ?_
      rintro e w' ⟨rfl, hB⟩
      refine ⟨?_, hB⟩
      have hE : margE l n = 0 := by unfold margE; rw [hce, if_pos hz, if_neg hn]
      have hV : margV l n = margL l n 0 := by unfold margV; rw [hE, if_pos rfl]
      rw [hE, hV]
  · have hE := Lib.hid (show margE l n = ce by unfold margE; rw [hce, if_neg hz])
    have hV := Lib.hid (show margV l n = 0 by unfold margV; rw [hE.out, if_neg hz])
    have hzb : (ce != 0) = true := bne_iff_ne.2 hz
    clear hr hce hz
    go_enter Try.func13, Try.ntmps13
    go_wp2_with fail
    refine hck.out.mono ?_
    rintro e w1 ⟨rfl, hb⟩
    have HB := Lib.hid hb
    clear hb
    go_wp2_with fail
    go_ret2
    exact ⟨by rw [hE.out, hV.out]; rfl, HB.out⟩
set_option maxHeartbeats 1600000 in
theorem fee_any (A : Option Addr) (c : Nat) (l : List Tr) (n : Int) (w : World) (hr : IsRow w A (cellsT l)) (hl : l.length ≤ 1000000) (hup : upT l) :
    Calls Try.prog 11 #[.slice A l.length c, .int .i64 n] w fun e w' => e = .returned (.tuple #[.int .i64 (feeV l n), .int .i64 (feeE l n)]) ∧ Below w.heap.size w w' := by
  have hck := Lib.hid (check_any A c l w hr hl)
  obtain ⟨ce, hce⟩ : ∃ ce, chkE l = ce := ⟨_, rfl⟩
  rw [hce] at hck
  by_cases hz : ce = 0
  · by_cases hn : n < 0 ∨ 1000000000 < n
    · have hE := Lib.hid (show feeE l n = 4 by unfold feeE; rw [hce, if_pos hz, if_pos hn])
      have hV := Lib.hid (show feeV l n = 0 by unfold feeV; rw [hE.out, if_neg (by omega)])
      have hzb : (ce != 0) = false := by simp only [bne_eq_false_iff_eq]; exact hz
      have hcase : n < 0 ∨ (0 ≤ n ∧ 1000000000 < n) := by omega
      clear hr hn hce
      rcases hcase with q | ⟨q, q'⟩
      all_goals
        go_enter Try.func11, Try.ntmps11
        go_wp2_with fail
        refine hck.out.mono ?_
        rintro e w1 ⟨rfl, hb⟩
        have HB := Lib.hid hb
        clear hb
        go_wp2_with fail
        go_ret2
        exact ⟨by rw [hE.out, hV.out]; rfl, HB.out⟩
    · have h0 := hck.out
      rw [hz] at h0
      rcases hr with h1 | ⟨b, off, rfl, hc⟩
      · rw [cellsT_length] at h1
        rw [chkE_0 (by omega)] at hce
        omega
      have hpos : 0 < l.length := by
        rcases Nat.eq_zero_or_pos l.length with h1 | h1
        · rw [chkE_0 h1] at hce
          omega
        · exact h1
      have hb : b < w.heap.size := World.block_lt_of_cell? w _ (row_tier hc 0 hpos).1
      refine (fee_ok b off c l n w (hce.trans hz) hup hl (by omega) (by omega) hb h0 hc).mono ?_
      rintro e w' ⟨rfl, hB⟩
      refine ⟨?_, hB⟩
      rfl
  · have hE := Lib.hid (show feeE l n = ce by unfold feeE; rw [hce, if_neg hz])
    have hV := Lib.hid (show feeV l n = 0 by unfold feeV; rw [hE.out, if_neg hz])
    have hzb : (ce != 0) = true := bne_iff_ne.2 hz
    clear hr hce hz
    go_enter Try.func11, Try.ntmps11
    go_wp2_with fail
    refine hck.out.mono ?_
    rintro e w1 ⟨rfl, hb⟩
    have HB := Lib.hid hb
    clear hb
    go_wp2_with fail
    go_ret2
    exact ⟨by rw [hE.out, hV.out]; rfl, HB.out⟩
end Go.Proofs.Ytfhiepcjkocnlaa
