/- The walks of the sort: the comparison of two places by their rests, the insertion sort, slices.SortStableFunc at fewer than 20 elements. -/
import Derived.Test.YtadehobimlpmcaaDoorMon
import Derived.Test.YtadehobimlpmcaaDoorSpl
import Derived.Sort.WalkA
import Derived.Sort.WalkC
import Derived.Shelf.GgSortFunc.Compose
import Derived.Deep.LoopGhost
import Derived.Deep.QuietTactic
import Derived.BigQuiet
import Derived.BigRegion
namespace Go.Proofs.YtadehobimlpmcaaDoor
set_option linter.unusedVariables false
open Go.RowKit Go.Sort

theorem quiet_left {P : Program} {f : FuncId} {args : Array Value} {w : World} {n : Nat} {v : Value}
    (h : Calls P f args (w.drewN n) fun e w' => e = .returned v ∧ w.drewN n = w') : Calls P f args (w.drewN n) fun e w'' => e = .returned v ∧ ∃ m, w'' = w.drewN m :=
  h.mono fun _ _ ⟨he, hm⟩ => ⟨he, n, hm.symm⟩
/-- The rests lie in a row behind a box. -/
structure RestW (w : World) (BR rb n cap : Nat) (r : Nat → Nat) : Prop where
  box : w.cell? ⟨BR, 0, none⟩ = some (.slice (some ⟨rb, 0, none⟩) n cap)
  cell : ∀ i, i < n → w.cell? ⟨rb, 0 + i, none⟩ = some (.int .u64 (r i))
set_option maxHeartbeats 1600000 in
theorem less_any (BR rb n cap : Nat) (r : Nat → Nat) (x y : Nat) (w : World) (hR : RestW w BR rb n cap r) (hx : x < n) (hy : y < n) (hn : n ≤ 1000) :
    Calls Tryd.prog 38 #[.int .i64 x, .int .i64 y, .pointer (some ⟨BR, 0, none⟩)] w fun e w' => e = .returned (.int .i64 (cmpI (r y) (r x))) ∧ ∃ q, w' = w.drewN q := by
  have c0 := hR.box
  have cx := hR.cell x hx
  have cy := hR.cell y hy
  rw [Nat.zero_add] at cx cy
  have hx0 : (0 : Int) ≤ (x : Int) := by omega
  have hx1 : (x : Int) < (n : Int) := by omega
  have hy0 : (0 : Int) ≤ (y : Int) := by omega
  have hy1 : (y : Int) < (n : Int) := by omega
  obtain ⟨rx, hrx⟩ : ∃ rx, r x = rx := ⟨_, rfl⟩
  obtain ⟨ry, hry⟩ : ∃ ry, r y = ry := ⟨_, rfl⟩
  rw [hrx] at cx ⊢
  rw [hry] at cy ⊢
  clear hR hrx hry
  go_enter Tryd.func38, Tryd.ntmps38
  go_wp2_with fail
  go_quiet ((go_at_call 39; exact quiet_left (cmp_any _ _ _)))
  go_wp2_with fail
  go_ret
  exact ⟨rfl, _, rfl⟩
def encI (n : Nat) : Value := .int .i64 n
/-- The comparison serves in every world that the sort passes through. -/
def CmpAt (w : World) (BR blk : Nat) (N : Nat) (r : Nat → Nat) (size : Nat) : Prop :=
  ∀ (m : Nat) (dk : Array Nat), dk.size = size → ∀ x y : Nat, x < N → y < N →
    Calls Tryd.prog 38 #[.int .i64 x, .int .i64 y, .pointer (some ⟨BR, 0, none⟩)] ((putRow encI w blk 0 dk).drewN m) fun e w' => e = .returned (.int .i64 (cmpI (r y) (r x))) ∧ ∃ q, w' = ((putRow encI w blk 0 dk).drewN m).drewN q
theorem cmp_neg (r : Nat → Nat) (x y : Nat) : ltR r x y = decide (cmpI (r y) (r x) < 0) := by
  unfold ltR cmpI
  by_cases h : r y < r x
  · rw [decide_eq_true h, if_pos (by omega)]; rfl
  · rw [decide_eq_false h, if_neg (by omega)]
    split <;> rfl
theorem swp_all {N : Nat} {d : Array Nat} (h : ∀ k, k < d.size → d[k]! < N) {i j : Nat} (hi : i < d.size) (hj : j < d.size) : ∀ k, k < (swp d i j).size → (swp d i j)[k]! < N := by
  intro k hk
  rw [swp_size] at hk
  rw [swp_get d hi hj]
  split
  · exact h i hi
  · split
    · exact h j hj
    · exact h k hk
set_option maxHeartbeats 4000000 in
set_option maxRecDepth 1000000 in
theorem ins_any (BR blk cap a b N : Nat) (r : Nat → Nat) (d : Array Nat) (w : World) (hcmp : CmpAt w BR blk N r d.size) (hH : Holds encI w blk 0 d) (hall : ∀ k, k < d.size → d[k]! < N) (hab : a ≤ b) (hb : b ≤ d.size) (hsz : d.size < 1000000) :
    Calls Tryd.prog 68 #[.slice (some ⟨blk, 0, none⟩) d.size cap, .int .i64 a, .int .i64 b, .func (.func 38) #[] #[.pointer (some ⟨BR, 0, none⟩)]] w fun e w' =>
      e = .returned (.tuple #[]) ∧ ∃ n, w' = (putRow encI w blk 0 (insertionSort (ltR r) d a b)).drewN n := by
  have hcAt : ∀ (X : Array Nat) (x y : Nat), X.size = d.size → x < N → y < N → ∀ m n, Calls Tryd.prog 38 #[.int .i64 x, .int .i64 y, .pointer (some ⟨BR, 0, none⟩)] (((putRow encI w blk 0 X).drewN m).drewN n) fun e w' => e = .returned (.int .i64 (cmpI (r y) (r x))) ∧ ∃ q, w' = (((putRow encI w blk 0 X).drewN m).drewN n).drewN q := fun X x y hX hx hy m n => by
    have := hcmp (m + n) X hX x y hx hy
    rw [← World.drewN_drewN] at this
    exact this
  have HC := Lib.hid hcAt
  have HST := Lib.hid (putRow_self encI w blk 0 d hH).symm
  have HH := Lib.hid hH
  have HALL := Lib.hid hall
  clear hcAt hcmp hH hall
  go_enter Tryd.func68, Tryd.ntmps68
  go_wp2_with fail
  go_loopg [8] (b - a) (fun g1 vi wr => ∃ (i n : Nat) (dk : Array Nat), vi = .int .i64 i ∧ a < i ∧ i ≤ b + 1 ∧ b + 1 - i ≤ g1 + 1 ∧ dk.size = d.size ∧ wr = (putRow encI w blk 0 dk).drewN n ∧ Hid (insOuter (ltR r) a b i dk = insOuter (ltR r) a b (a + 1) d) ∧ Hid (∀ k, k < dk.size → dk[k]! < N))
  case atStart => exact ⟨a + 1, 0, d, by go_num, by omega, by omega, by omega, rfl, HST.out, rfl, HALL⟩
  case round =>
    obtain ⟨i, n, dk, rfl, hai, hib, hg1, hsk, rfl, HO, HK⟩ := hrel
    by_cases hlt : i < b
    · have hltz : (i : Int) < (b : Int) := by omega
      go_wp2_with fail
      go_loopg [9] i (fun g2 vj wr2 => ∃ (j m : Nat) (dj : Array Nat), vj = .int .i64 j ∧ a ≤ j ∧ j ≤ i ∧ j ≤ g2 ∧ dj.size = d.size ∧ wr2 = (putRow encI w blk 0 dj).drewN m ∧ Hid (insInner (ltR r) a j dj = insInner (ltR r) a i dk) ∧ Hid (∀ k, k < dj.size → dj[k]! < N))
      case atStart => exact ⟨i, n, dk, rfl, by omega, Nat.le_refl _, Nat.le_refl _, hsk, rfl, rfl, HK⟩
      case round =>
        obtain ⟨j, m, dj, rfl, haj, hji, hg2, hsj, rfl, HI, HJ⟩ := hrel
        have out : (j ≤ a ∨ ltR r dj[j]! dj[j - 1]! = false) → Hid (insOuter (ltR r) a b (i + 1) dj = insOuter (ltR r) a b (a + 1) d) := fun hs => by
          show _ = _
          rw [← HO.out, insOuter_go _ _ _ _ _ hlt, ← HI.out, insInner_stop _ _ _ _ hs]
        have OUT := Lib.hid out
        clear out
        by_cases hja : a < j
        · have hjaz : (a : Int) < (j : Int) := by omega
          have hHj := holds_putRow encI w blk 0 d dj HH.out hsj
          obtain ⟨xj, hxj⟩ : ∃ x, dj[j]! = x := ⟨_, rfl⟩
          obtain ⟨xp, hxp⟩ : ∃ x, dj[j - 1]! = x := ⟨_, rfl⟩
          obtain ⟨cj, fj⟩ := hHj j (by omega)
          obtain ⟨cp, fp⟩ := hHj (j - 1) (by omega)
          have hxjN : xj < N := by rw [← hxj]; exact HJ.out j (by omega)
          have hxpN : xp < N := by rw [← hxp]; exact HJ.out (j - 1) (by omega)
          rw [hxj] at cj
          rw [hxp] at cp
          obtain ⟨jp, rfl⟩ : ∃ jp, j = jp + 1 := ⟨j - 1, by omega⟩
          simp only [Nat.add_sub_cancel] at cp fp hxp
          have hwp : IntKind.i64.wrap (jp : Int) = (jp : Int) := IntWalk.i64_in _ (by omega)
          have jz : (jp : Int) + 1 < (d.size : Int) := by omega
          have jz1 : (jp : Int) < (d.size : Int) := by omega
          have hjaz' : (a : Int) < (jp : Int) + 1 := by omega
          have p0 : (0 : Int) ≤ (jp : Int) + 1 := by omega
          have e0 : ((jp : Int) + 1).toNat = jp + 1 := by omega
          have hc := Lib.hid (HC.out dj xj xp hsj hxjN hxpN m)
          clear hHj
          rw [Nat.zero_add] at cj fj cp fp
          have cj' : ((putRow encI w blk 0 dj).drewN m).cell? ⟨blk, jp + 1, none⟩ = some (.int .i64 xj) := cj
          have cp' : ((putRow encI w blk 0 dj).drewN m).cell? ⟨blk, jp, none⟩ = some (.int .i64 xp) := cp
          have fj' : ((putRow encI w blk 0 dj).drewN m).frozen? ⟨blk, jp + 1, none⟩ = false := fj
          have fp' : ((putRow encI w blk 0 dj).drewN m).frozen? ⟨blk, jp, none⟩ = false := fp
          clear cj cp fj fp
          generalize hwq : (putRow encI w blk 0 dj).drewN m = wq at cj' cp' fj' fp' hc ⊢
          have HWQ := Lib.hid hwq
          have HXJ := Lib.hid hxj
          have HXP := Lib.hid hxp
          obtain ⟨cv, hcv⟩ : ∃ cv, cmpI (r xp) (r xj) = cv := ⟨_, rfl⟩
          have hlr := cmp_neg r xj xp
          rw [hcv] at hc hlr
          have HLR := Lib.hid hlr
          clear hwq hxj hxp hcv hlr
          by_cases hlv : cv < 0
          · have HLT := Lib.hid (show ltR r xj xp = true by rw [HLR.out]; exact decide_eq_true hlv)
            go_wp2_with fail
            go_quiet ((go_at_call 38; exact Calls.quiet_of (hc.out _)))
            go_wp2_with fail
            have HW2 := Lib.hid (show wq.drewN nq = (putRow encI w blk 0 dj).drewN (m + nq) by rw [← HWQ.out, World.drewN_drewN])
            have cj2 : (wq.drewN nq).cell? ⟨blk, jp + 1, none⟩ = some (.int .i64 xj) := cj'
            have cp2 : (wq.drewN nq).cell? ⟨blk, jp, none⟩ = some (.int .i64 xp) := cp'
            have fj2 : (wq.drewN nq).frozen? ⟨blk, jp + 1, none⟩ = false := fj'
            have fp2 : (wq.drewN nq).frozen? ⟨blk, jp, none⟩ = false := fp'
            clear cj' cp' fj' fp' hc
            generalize wq.drewN nq = wq2 at HW2 cj2 cp2 fj2 fp2 ⊢
            obtain ⟨j1, hj1⟩ : ∃ j1, j1 = jp + 1 := ⟨_, rfl⟩
            rw [← hj1] at cj2 fj2 e0
            have J1 := Lib.hid hj1
            clear hj1
            go_region
            all_goals go_wp2_with fail
            go_roundg jp
            case measure => omega
            case rel =>
              refine ⟨jp, m + nq + 1, swp dj (jp + 1) jp, by first | rfl | go_num | (congr 1; omega), by omega, by omega, Nat.le_refl _, by rw [size_swp]; exact hsj, ?_, Lib.hid ?_, Lib.hid (swp_all HJ.out (by omega) (by omega))⟩
              · rw [J1.out, HW2.out, ← HXP.out, ← HXJ.out]
                have := swap_worldC encI w blk 0 dj (m + nq) (jp + 1) jp (by omega) (by omega)
                rw [Nat.zero_add, Nat.zero_add] at this
                exact this
              · have := insInner_go (ltR r) a (jp + 1) dj hja (by simp only [Nat.add_sub_cancel]; rw [HXJ.out, HXP.out]; exact HLT.out)
                simp only [Nat.add_sub_cancel] at this
                rw [← HI.out, this]
          · have HLF := Lib.hid (show ltR r xj xp = false by rw [HLR.out]; exact decide_eq_false hlv)
            go_wp2_with fail
            go_quiet ((go_at_call 38; exact Calls.quiet_of (hc.out _)))
            go_wp2_with fail
            go_roundg (b - (i + 1))
            case measure => omega
            case rel => exact ⟨i + 1, _, dj, by go_num, by omega, by omega, by omega, hsj, by rw [← HWQ.out, World.drewN_drewN], OUT.out (Or.inr (by simp only [Nat.add_sub_cancel]; rw [HXJ.out, HXP.out]; exact HLF.out)), HJ⟩
        · have hjaz : decide ((j : Int) > (a : Int)) = false := decide_eq_false (by omega)
          have hjaz' : ¬ (a : Int) < (j : Int) := by omega
          generalize hwq : (putRow encI w blk 0 dj).drewN m = wq
          have HWQ := Lib.hid hwq
          clear hwq
          go_wp2_with fail
          go_quiet (fail)
          go_wp2_with fail
          go_roundg (b - (i + 1))
          case measure => omega
          case rel => exact ⟨i + 1, _, dj, by go_num, by omega, by omega, by omega, hsj, by rw [← HWQ.out, World.drewN_drewN], OUT.out (Or.inl (by omega)), HJ⟩
    · have hltz : ¬ (i : Int) < (b : Int) := by omega
      go_wp2_with fail
      go_end0
      exact ⟨rfl, n, by unfold insertionSort; rw [← HO.out, insOuter_stop _ _ _ _ _ hlt]⟩
set_option maxHeartbeats 1600000 in
/-- slices.stableCmpFunc at fewer than 20 elements. -/
theorem stable_small (BR blk cap N : Nat) (r : Nat → Nat) (d : Array Nat) (w : World) (hcmp : CmpAt w BR blk N r d.size) (hH : Holds encI w blk 0 d) (hall : ∀ k, k < d.size → d[k]! < N) (hsz : d.size < 20) :
    Calls Tryd.prog 55 #[.slice (some ⟨blk, 0, none⟩) d.size cap, .int .i64 d.size, .func (.func 38) #[] #[.pointer (some ⟨BR, 0, none⟩)]] w fun e w' =>
      e = .returned (.tuple #[]) ∧ ∃ n, w' = (putRow encI w blk 0 (insertionSort (ltR r) d 0 d.size)).drewN n := by
  have hc := Lib.hid (ins_any BR blk cap 0 d.size N r d w hcmp hH hall (Nat.zero_le _) (Nat.le_refl _) (by omega))
  obtain ⟨n, hn⟩ : ∃ n, d.size = n := ⟨_, rfl⟩
  rw [hn] at hc hsz ⊢
  clear hcmp hH hall hn
  have h1 : ¬ (20 : Int) ≤ (n : Int) := by omega
  have h2 : ¬ (20 : Int) < (n : Int) := by omega
  go_enter Tryd.func55, Tryd.ntmps55
  go_wp2_with fail
  refine wp_loop_rounds 1 ?_
  rw [rounds_succ]
  go_wp2_with fail
  refine hc.out.mono ?_
  rintro e w1 ⟨rfl, m, rfl⟩
  go_wp2_with fail
  refine wp_loop_rounds 1 ?_
  rw [rounds_succ]
  go_wp2_with fail
  go_end0
  exact ⟨rfl, m, rfl⟩
set_option maxHeartbeats 400000 in
/-- slices.SortStableFunc at fewer than 20 elements. -/
theorem sorts_small (BR blk cap N : Nat) (r : Nat → Nat) (d : Array Nat) (w : World) (hcmp : CmpAt w BR blk N r d.size) (hH : Holds encI w blk 0 d) (hall : ∀ k, k < d.size → d[k]! < N) (hsz : d.size < 20) :
    Calls Tryd.prog 37 #[.slice (some ⟨blk, 0, none⟩) d.size cap, .func (.func 38) #[] #[.pointer (some ⟨BR, 0, none⟩)]] w fun e w' =>
      e = .returned (.tuple #[]) ∧ ∃ n, w' = (putRow encI w blk 0 (insertionSort (ltR r) d 0 d.size)).drewN n := by
  have hc := Lib.hid (stable_small BR blk cap N r d w hcmp hH hall hsz)
  clear hcmp hH hall
  go_enter Tryd.func37, Tryd.ntmps37
  go_wp2_with fail
  refine hc.out.mono ?_
  rintro e w1 ⟨rfl, m, rfl⟩
  go_wp2_with fail
  go_end0
  exact ⟨rfl, m, rfl⟩
end Go.Proofs.YtadehobimlpmcaaDoor
