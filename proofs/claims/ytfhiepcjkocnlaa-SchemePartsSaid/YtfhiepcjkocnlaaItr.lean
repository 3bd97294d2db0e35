/- The iterator of the spans: what it hands to a loop's body, whatever the body. -/
import Derived.Test.YtfhiepcjkocnlaaSpn
import Derived.RangeFuncNested
import Derived.RangeFuncBound
import Derived.RangeFuncCalls
import Derived.RangeFuncLeaves
import Derived.RangeFuncBox
import Derived.RangeFuncWrites
import Derived.Shelf.Abstract
import Derived.Shelf.RegionOpen
import Derived.OwnWalkIn
import Derived.TacticsInMore
import Derived.LoopNIn
import Derived.LoopIn
import Derived.BigRegionIn
import Derived.Sort.BigQuietIn
namespace Go.Proofs.Ytfhiepcjkocnlaa
set_option linter.unusedVariables false
open Go.RowKit Go.Shelf
attribute [local go_sem] Oper.semAt_some

/-- What a round keeps: what lay ahead of the call, and the two boxes of the iterator. -/
structure Kp2 (n₀ BL BC : Nat) (W W' : World) : Prop where
  below : Below n₀ W W'
  k1 : W'.cell? ⟨BL, 0, none⟩ = W.cell? ⟨BL, 0, none⟩
  k2 : W'.cell? ⟨BC, 0, none⟩ = W.cell? ⟨BC, 0, none⟩
theorem Kp2.trans {n₀ BL BC : Nat} {A B C : World} (h : Kp2 n₀ BL BC A B) (k : Kp2 n₀ BL BC B C) : Kp2 n₀ BL BC A C :=
  ⟨h.below.trans k.below, k.k1.trans h.k1, k.k2.trans h.k2⟩
theorem Kp2.refl (n₀ BL BC : Nat) (A : World) : Kp2 n₀ BL BC A A := ⟨Below.refl _ _, rfl, rfl⟩
theorem Kp2.alloc {n₀ BL BC : Nat} {A B : World} (h : Kp2 n₀ BL BC A B) (hn : n₀ ≤ B.heap.size) (h1 : BL < B.heap.size) (h2 : BC < B.heap.size) (o : Obj) : Kp2 n₀ BL BC A (B.alloc o) :=
  ⟨h.below.alloc hn o, (World.cell?_alloc_old _ _ _ (Nat.ne_of_lt h1)).trans h.k1, (World.cell?_alloc_old _ _ _ (Nat.ne_of_lt h2)).trans h.k2⟩
theorem Kp2.drewN {n₀ BL BC : Nat} {A B : World} (h : Kp2 n₀ BL BC A B) (n : Nat) : Kp2 n₀ BL BC A (B.drewN n) :=
  ⟨h.below.trans ⟨rfl, rfl, rfl, Nat.le_refl _, fun _ _ => rfl⟩, h.k1, h.k2⟩
theorem Kp2.cell {n₀ BL BC : Nat} {A B : World} (h : Kp2 n₀ BL BC A B) {b o : Nat} {v : Value} (hb : b < n₀) (hc : A.cell? ⟨b, o, none⟩ = some v) : B.cell? ⟨b, o, none⟩ = some v :=
  (h.below.cell (p := ⟨b, o, none⟩) hb).trans hc
theorem abides_alloc {β : Type} {B : Nat} {J : β → World → Prop} (h : AbidesFrom B J) {s : β} {W : World} (hJ : J s W) (o : Obj) (n : Nat) : J s ((W.alloc o).drewN n) :=
  h s W _ none hJ ⟨rfl, rfl, rfl, by simp, fun i hi _ => Below.heap_alloc W o i hi⟩ (fun r e => by cases e)

theorem okT_pos {l : List Tr} (h : okT l) : ∀ k, k < l.length → 1 ≤ (l.getD k default).f
  | 0, hk => by rw [(h 0 hk).1 rfl]; omega
  | k + 1, hk => by
    have h1 := okT_pos h k (by omega)
    have h2 := (h (k + 1) hk).2.1 (by omega)
    rw [Nat.add_sub_cancel] at h2; omega
set_option maxRecDepth 100000 in
set_option maxHeartbeats 4000000 in
theorem spans1_in (F : Fence) (n : Nat) (h38 : F.fn 38) (hro : F.round = none) (hn : 1 ≤ n) (L BL BC n₀ b off cap : Nat) (l : List Tr) (c : Int) (hok : okT l) (hup : upT l) (hl : l.length ≤ 1000000) (q1 : 0 ≤ c) (q2 : c ≤ 1000000000) (hb : b < n₀)
    (J Jx : List (Int × Int) → World → Prop) (W : World) (hJ : AbidesFrom W.heap.size J)
    (hY : ∀ pre x W1, J pre W1 → pre.length < l.length → YieldAt F (n - 1) Try.prog L #[.int .i64 x.1, .int .i64 x.2] W1 fun e W' =>
      (e = .returned (.bool true) ∧ J (pre ++ [x]) W' ∧ Kp2 n₀ BL BC W1 W') ∨ (e = .returned (.bool false) ∧ Jx (pre ++ [x]) W'))
    (hBL : W.cell? ⟨BL, 0, none⟩ = some (.slice (some ⟨b, off, none⟩) l.length cap)) (hBC : W.cell? ⟨BC, 0, none⟩ = some (.int .i64 c)) (hn₀ : n₀ ≤ W.heap.size)
    (hc : ∀ j v, (cellsT l)[j]? = some v → W.cell? ⟨b, off + j, none⟩ = some v) (h0 : J [] W) :
    CallsIn F n Try.prog 38 #[.func (.yield L) #[] #[], .pointer (some ⟨BL, 0, none⟩), .pointer (some ⟨BC, 0, none⟩)] W fun e W' => (∃ v, e = .returned v) ∧
      ((∃ ys, (∃ k, SpanEnd l c k ∧ ys = upto (spanF l c) k) ∧ J ys W') ∨ (∃ pre, True ∧ Jx pre W')) := by
  have HC := Lib.hid hc
  have HOK := Lib.hid hok
  have HUP := Lib.hid hup
  have hBLl := World.block_lt_of_cell? W _ hBL
  have hBCl := World.block_lt_of_cell? W _ hBC
  clear hc hok hup
  refine callsIn_of_wp Try.func38 rfl h38 ?_ hro
  simp only [Try.ntmps38, List.size_toArray, List.length_cons, List.length_nil, Nat.reduceAdd, Nat.reduceSub, Array.replicate_succ, Array.replicate_zero, List.push_toArray, List.append_toArray, List.nil_append, List.cons_append]
  gi_wp2
  have HBL := Lib.hid hBL
  have HBC := Lib.hid hBC
  clear hBL hBC
  gi_loopw [9] (fun i wr => ∃ k : Nat, k ≤ l.length ∧ i = .int .i64 k ∧ Hid (∀ j, j < k → (l.getD j default).f ≤ c) ∧ J (upto (spanF l c) k) wr ∧ Kp2 n₀ BL BC W wr ∧ W.heap.size ≤ wr.heap.size)
    (fun i _ => l.length - (intOf i).toNat)
  case atStart => exact ⟨0, Nat.zero_le _, rfl, Lib.hid (fun j hj => by omega), h0, Kp2.refl _ _ _ _, Nat.le_refl _⟩
  case round =>
    obtain ⟨k, hk, rfl, hlow, hJs, hkp, hsz⟩ := hrel
    have HKP := Lib.hid hkp
    clear hkp
    by_cases hlt : k < l.length
    · obtain ⟨c0, c1⟩ := row_tier HC.out k hlt
      rw [← getD_at l k hlt] at c0 c1
      obtain ⟨fk, hfk⟩ : ∃ fk, (l.getD k default).f = fk := ⟨_, rfl⟩
      obtain ⟨pk, hpk⟩ : ∃ pk, (l.getD k default).p = pk := ⟨_, rfl⟩
      rw [hfk] at c0
      rw [hpk] at c1
      have d0 := HKP.out.cell hb c0
      have d1 := HKP.out.cell hb c1
      have bL := HKP.out.k1.trans HBL.out
      have bC := HKP.out.k2.trans HBC.out
      have hlb := World.block_lt_of_cell? wr _ d0
      have lL := World.block_lt_of_cell? wr _ bL
      have lC := World.block_lt_of_cell? wr _ bC
      have hk1 := HOK.out k hlt
      have hkb : 1 ≤ fk := by
        rw [← hfk]
        exact okT_pos HOK.out k hlt
      have hA := abides_alloc hJ hJs (Obj.cells #[Value.int IntKind.i64 fk, Value.int IntKind.i64 pk] 51)
      have HKA := Lib.hid (HKP.out.alloc (Nat.le_trans hn₀ hsz) lL lC (Obj.cells #[Value.int IntKind.i64 fk, Value.int IntKind.i64 pk] 51))
      by_cases hf : fk ≤ c
      · have hN := Lib.hid (show ∀ j, j < k + 1 → (l.getD j default).f ≤ c from fun j hj => by
          rcases Nat.lt_or_ge j k with q | q
          · exact hlow.out j q
          · obtain rfl : j = k := by omega
            rw [hfk]; exact hf)
        by_cases hl1 : k + 1 < l.length
        · obtain ⟨cn, _⟩ := row_tier HC.out (k + 1) hl1
          rw [← getD_at l (k + 1) hl1] at cn
          obtain ⟨fn, hfn⟩ : ∃ fn, (l.getD (k + 1) default).f = fn := ⟨_, rfl⟩
          rw [hfn] at cn
          have dn := HKP.out.cell hb cn
          have hfb : fn ≤ 9223372036854775807 := by rw [← hfn]; exact HUP.out (k + 1)
          have hgn : fk < fn := by
            have := (HOK.out (k + 1) hl1).2.1 (by omega)
            rw [Nat.add_sub_cancel, hfn, hfk] at this; exact this
          have hla := last_next l c k hl1
          rw [hfn] at hla
          have hsp := Lib.hid (show spanF l c k = (min c (fn - 1) - fk + 1, pk) by unfold spanF; rw [hla, hfk, hpk])
          clear hfk hpk hfn hla c0 c1 cn
          gi_wp2
          generalize hWA : wr.alloc (Obj.cells #[Value.int IntKind.i64 fk, Value.int IntKind.i64 pk] 51) = WA at hA HKA ⊢
          have x0 : WA.cell? ⟨wr.heap.size, 0, none⟩ = some (.int .i64 fk) := by rw [← hWA]; simp
          have x1 : WA.cell? ⟨wr.heap.size, 1, none⟩ = some (.int .i64 pk) := by rw [← hWA]; simp
          have yL := HKA.out.k1.trans HBL.out
          have yC := HKA.out.k2.trans HBC.out
          have yn := (show WA.cell? ⟨b, off + (k + 1) * 2, none⟩ = some (.int .i64 fn) by rw [← hWA, World.cell?_alloc_old _ _ _ (Nat.ne_of_lt hlb)]; exact dn)
          have hsA : W.heap.size ≤ WA.heap.size := by rw [← hWA]; simp; omega
          clear hWA d0 d1 bL bC dn hlow
          have hw1 : IntKind.i64.wrap (fn - 1) = fn - 1 := IntWalk.i64_in _ (by omega)
          rcases Int.lt_or_le (fn - 1) c with hmn | hmn
          · have hsp := Lib.hid (hsp.out.trans (by rw [Int.min_eq_right (by omega)]))
            refine wpIn_region_quiet_lit hro (by kernel_rfl) (by kernel_rfl) ?_
            repeat (gi_big_quiet_step (fail))
            refine wpQuietIn_nil ?_
            intro _ hw'
            obtain ⟨nq, hw''⟩ := hw'
            subst hw''
            obtain ⟨fn', tmps, assign, body, hy, hR⟩ := hY _ (fn - 1 - fk + 1, pk) _ (hA nq) (by rw [upto_length]; exact hlt)
            dsimp only at hy
            clear yL yC yn hw1
            gi_wp2
            refine hR.mono ?_
            rintro e W3 (⟨rfl, hJ3, hk3⟩ | ⟨rfl, hJx3⟩)
            · have HK3 := Lib.hid ((HKA.out.drewN nq).trans hk3)
              have hs3 : W.heap.size ≤ W3.heap.size := Nat.le_trans hsA hk3.below.size
              clear hk3
              gi_wp2
              go_roundw
              case rel => exact ⟨k + 1, by omega, by go_num, hN, by rw [upto_succ, hsp.out]; exact hJ3, HK3.out, hs3⟩
              case measure => simp [intOf]; omega
            · gi_wp2
              refine bodyPost_ret (results_none rfl _ _ _) rfl ?_
              exact ⟨⟨_, rfl⟩, .inr ⟨_, trivial, hJx3⟩⟩
          · have hsp := Lib.hid (hsp.out.trans (by rw [Int.min_eq_left hmn]))
            refine wpIn_region_quiet_lit hro (by kernel_rfl) (by kernel_rfl) ?_
            repeat (gi_big_quiet_step (fail))
            refine wpQuietIn_nil ?_
            intro _ hw'
            obtain ⟨nq, hw''⟩ := hw'
            subst hw''
            obtain ⟨fn', tmps, assign, body, hy, hR⟩ := hY _ (c - fk + 1, pk) _ (hA nq) (by rw [upto_length]; exact hlt)
            dsimp only at hy
            clear yL yC yn hw1
            gi_wp2
            refine hR.mono ?_
            rintro e W3 (⟨rfl, hJ3, hk3⟩ | ⟨rfl, hJx3⟩)
            · have HK3 := Lib.hid ((HKA.out.drewN nq).trans hk3)
              have hs3 : W.heap.size ≤ W3.heap.size := Nat.le_trans hsA hk3.below.size
              clear hk3
              gi_wp2
              go_roundw
              case rel => exact ⟨k + 1, by omega, by go_num, hN, by rw [upto_succ, hsp.out]; exact hJ3, HK3.out, hs3⟩
              case measure => simp [intOf]; omega
            · gi_wp2
              refine bodyPost_ret (results_none rfl _ _ _) rfl ?_
              exact ⟨⟨_, rfl⟩, .inr ⟨_, trivial, hJx3⟩⟩
        · have hla := last_end l c k hl1
          have hsp := Lib.hid (show spanF l c k = (c - fk + 1, pk) by unfold spanF; rw [hla, hfk, hpk])
          clear hfk hpk hla c0 c1
          obtain ⟨fn, tmps, assign, body, hy, hR⟩ := hY _ (c - fk + 1, pk) _ (hA 0) (by rw [upto_length]; exact hlt)
          rw [World.drewN_zero] at hy hR
          dsimp only at hy
          gi_wp2
          refine hR.mono ?_
          rintro e W3 (⟨rfl, hJ3, hk3⟩ | ⟨rfl, hJx3⟩)
          · have HK3 := Lib.hid (HKA.out.trans hk3)
            have hs3 : W.heap.size ≤ W3.heap.size := by
              have h1 := hk3.below.size
              rw [World.size_alloc] at h1
              omega
            clear hk3
            gi_wp2
            go_roundw
            case rel => exact ⟨k + 1, by omega, by go_num, hN, by rw [upto_succ, hsp.out]; exact hJ3, HK3.out, hs3⟩
            case measure => simp [intOf]; omega
          · gi_wp2
            refine bodyPost_ret (results_none rfl _ _ _) rfl ?_
            exact ⟨⟨_, rfl⟩, .inr ⟨_, trivial, hJx3⟩⟩
      · have hst := Lib.hid (show SpanEnd l c k from ⟨hk, hlow.out, fun _ => by rw [hfk]; omega⟩)
        have hA1 := hA 0
        clear hfk hpk c0 c1 hA
        gi_wp2
        refine bodyPost_ret (results_none rfl _ _ _) rfl ?_
        exact ⟨⟨_, rfl⟩, .inl ⟨_, ⟨k, hst.out, rfl⟩, hA1⟩⟩
    · obtain rfl : k = l.length := by omega
      have hlow' := hlow
      gi_wp2
      go_end0
      exact ⟨⟨_, rfl⟩, .inl ⟨_, ⟨_, ⟨Nat.le_refl _, hlow'.out, fun h => absurd h (by omega)⟩, rfl⟩, hJs⟩⟩
end Go.Proofs.Ytfhiepcjkocnlaa
