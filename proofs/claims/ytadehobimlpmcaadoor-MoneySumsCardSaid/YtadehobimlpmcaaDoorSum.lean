/- The walks of Sum, of the program and of the reference. -/
import Derived.Test.YtadehobimlpmcaaDoorOpen
import Derived.Deep.OwnRows
import Derived.Deep.RegionHeld3
namespace Go.Proofs.YtadehobimlpmcaaDoor
set_option linter.unusedVariables false
open Go.RowKit

theorem flat_cells (l : List Mny) (k : Nat) (hk : k < l.length) : (l.flatMap Mny.cells)[k * 2]? = some (.int .i64 l[k].a) ∧ (l.flatMap Mny.cells)[k * 2 + 1]? = some (.string l[k].s) := by
  induction l generalizing k with
  | nil => simp at hk
  | cons x l ih =>
    cases k with
    | zero => exact ⟨rfl, rfl⟩
    | succ k =>
      have := ih k (by simpa using hk)
      rw [List.flatMap_cons]
      show ([Value.int .i64 x.a, .string x.s] ++ _)[(k + 1) * 2]? = _ ∧ ([Value.int .i64 x.a, .string x.s] ++ _)[(k + 1) * 2 + 1]? = _
      rw [show (k + 1) * 2 = k * 2 + 2 by omega, show k * 2 + 2 + 1 = k * 2 + 1 + 2 by omega]
      simpa using this
/-- The error of a sum. -/
def sumE (cur : ByteArray) : Int → List Mny → Int
  | n, [] => 0
  | n, x :: l => if combE (pairE n cur x.a x.s) (n + x.a) = 0 then sumE cur (n + x.a) l else combE (pairE n cur x.a x.s) (n + x.a)
/-- The sum, where there is no error. -/
def sumN : Int → List Mny → Int
  | n, [] => n
  | n, x :: l => sumN (n + x.a) l
def sumER (cur : ByteArray) (l : List Mny) : Int := if curB cur = true then sumE cur 0 l else 11
def sumV (cur : ByteArray) (l : List Mny) : Value := if sumER cur l = 0 then monV (sumN 0 l) cur else zeroM
def SumPost (cur : ByteArray) (l : List Mny) (w : World) (e : Ending) (w' : World) : Prop := e = .returned (.tuple #[sumV cur l, .int .i64 (sumER cur l)]) ∧ Below w.heap.size w w'
theorem comb_zero {p n : Int} (h : combE p n = 0) : p = 0 ∧ inT n = true := by
  unfold combE totE at h
  split at h
  · rename_i hp
    split at h
    · rename_i hi; exact ⟨hp, hi⟩
    · cases h
  · rename_i hp; exact absurd h hp
theorem comb_non {p n : Int} {s : ByteArray} (h : combE p n ≠ 0) : combV p n s = zeroM := by
  unfold combE at h
  unfold combV
  split
  · rename_i hp
    rw [if_pos hp] at h
    unfold totE at h
    unfold totV
    split
    · rename_i hi; rw [if_pos hi] at h; exact absurd rfl h
    · rfl
  · rfl
theorem set2 {w : World} {b : Nat} {x y x' y' : Value} {T : TypeId} (h : w.heap[b]? = some (.cells #[x, y] T)) : ((w.setCell ⟨b, 0, none⟩ x').setCell ⟨b, 1, none⟩ y').heap[b]? = some (.cells #[x', y'] T) := by
  simp [World.setCell, h, Array.getElem?_modify]
/-- The state of Sum. -/
structure SumW (w wr : World) (cur : ByteArray) (n : Int) : Prop where
  res : wr.heap[w.heap.size]? = some (.cells #[.int .i64 0, .string ⟨#[]⟩] 23)
  acc : wr.heap[w.heap.size + 1]? = some (.cells #[.int .i64 n, .string cur] 23)
  bel : Below w.heap.size w wr
  lt : w.heap.size + 1 < wr.heap.size
theorem SumW.below {w wr w' : World} {cur : ByteArray} {n : Int} (h : SumW w wr cur n) (hb : Below wr.heap.size wr w') : SumW w w' cur n :=
  ⟨blk_later h.res hb, blk_later h.acc hb, h.bel.trans (hb.mono h.bel.size), Nat.lt_of_lt_of_le h.lt hb.size⟩
theorem SumW.put {w wr : World} {cur : ByteArray} {n m : Int} (h : SumW w wr cur n) : SumW w ((wr.setCell ⟨w.heap.size + 1, 0, none⟩ (.int .i64 m)).setCell ⟨w.heap.size + 1, 1, none⟩ (.string cur)) cur m :=
  ⟨by rw [Go.Deep.blk_setCell_other _ _ _ _ (by simp), Go.Deep.blk_setCell_other _ _ _ _ (by simp)]; exact h.res, set2 h.acc, (h.bel.setCell (p := ⟨w.heap.size + 1, 0, none⟩) (by simp) _).setCell (p := ⟨w.heap.size + 1, 1, none⟩) (by simp) _, by simpa using h.lt⟩
theorem sum_step {cur : ByteArray} {n : Int} {l : List Mny} {k : Nat} (hk : k < l.length) : sumE cur n (l.drop k) = if combE (pairE n cur l[k].a l[k].s) (n + l[k].a) = 0 then sumE cur (n + l[k].a) (l.drop (k + 1)) else combE (pairE n cur l[k].a l[k].s) (n + l[k].a) := by
  rw [List.drop_eq_getElem_cons hk]; rfl
theorem sumN_step {n : Int} {l : List Mny} {k : Nat} (hk : k < l.length) : sumN n (l.drop k) = sumN (n + l[k].a) (l.drop (k + 1)) := by
  rw [List.drop_eq_getElem_cons hk]; rfl
theorem alloc_refl (w : World) (o : Obj) : Below w.heap.size w (w.alloc o) := (Below.refl _ _).alloc (Nat.le_refl _) _
theorem zblk {wr w2 : World} (hb : Below ((wr.alloc (.cells #[.int .i64 0, .string ⟨#[]⟩] 23)).drew).heap.size ((wr.alloc (.cells #[.int .i64 0, .string ⟨#[]⟩] 23)).drew) w2) : w2.heap[wr.heap.size]? = some (.cells #[.int .i64 0, .string ⟨#[]⟩] 23) ∧ wr.heap.size < w2.heap.size := by
  obtain ⟨h1, h2, _⟩ := box1 (w := wr) (w1 := w2) (C1 := #[.int .i64 0, .string ⟨#[]⟩]) (T1 := 23) ⟨hb.os, hb.tape, hb.output, hb.size, hb.block⟩
  exact ⟨h1, h2⟩
theorem keepS {W w' : World} {b o b' o' : Nat} {x0 x1 y0 y1 : Value} (h : Below W.heap.size W w') (a0 : W.cell? ⟨b, o, none⟩ = some x0) (a1 : W.cell? ⟨b, o + 1, none⟩ = some x1) (c0 : W.cell? ⟨b', o', none⟩ = some y0) (c1 : W.cell? ⟨b', o' + 1, none⟩ = some y1) :
    Below W.heap.size W w' ∧ w'.cell? ⟨b, o, none⟩ = some x0 ∧ w'.cell? ⟨b, o + 1, none⟩ = some x1 ∧ w'.cell? ⟨b', o', none⟩ = some y0 ∧ w'.cell? ⟨b', o' + 1, none⟩ = some y1 :=
  ⟨h, (h.cell (p := ⟨b, o, none⟩) (World.block_lt_of_cell? W _ a0)).trans a0, (h.cell (p := ⟨b, o + 1, none⟩) (World.block_lt_of_cell? W _ a1)).trans a1, (h.cell (p := ⟨b', o', none⟩) (World.block_lt_of_cell? W _ c0)).trans c0, (h.cell (p := ⟨b', o' + 1, none⟩) (World.block_lt_of_cell? W _ c1)).trans c1⟩
set_option maxHeartbeats 6400000 in
set_option maxRecDepth 100000 in
theorem sum_any (cur : ByteArray) (A : Option Addr) (c : Nat) (l : List Mny) (w : World) (hr : IsRow w A (l.flatMap Mny.cells)) (hok : ∀ x ∈ l, x.s.size ≤ maxLen) (hl : l.length ≤ 100) (hs : cur.size ≤ maxLen) :
    Calls Tryd.prog 27 #[.string cur, .slice A l.length c] w (SumPost cur l w) := by
  have HC := Lib.hid (fun W => cur_any cur W hs)
  have HR := Lib.hid hr
  have HOK := Lib.hid hok
  have HS := Lib.hid hs
  clear hr hok hs
  cases hc : curB cur
  · have HE := Lib.hid (show sumER cur l = 11 by unfold sumER; rw [hc]; rfl)
    have HV := Lib.hid (show sumV cur l = zeroM by unfold sumV; rw [HE.out]; rfl)
    rw [hc] at HC
    clear hc
    go_enter Tryd.func27, Tryd.ntmps27
    go_wp2_with fail
    refine (HC.out _).mono ?_
    rintro e w1 ⟨rfl, rfl⟩
    go_wp2_with fail
    refine bodyPost_ret (v := .tuple #[zeroM, .int .i64 11]) ?_ rfl ?_
    · have hres : Tryd.f27.results = #[.cell 4 23, .tmp 5] := by kernel_rfl
      simp only [results, hres]
      go_simp
      rfl
    · exact ⟨by rw [HV.out, HE.out], alloc_refl _ _⟩
  · have HE := Lib.hid (show sumER cur l = sumE cur 0 l by unfold sumER; rw [hc]; rfl)
    rw [hc] at HC
    clear hc
    go_enter Tryd.func27, Tryd.ntmps27
    go_wp2_with fail
    refine (HC.out _).mono ?_
    rintro e w1 ⟨rfl, rfl⟩
    go_wp2_with fail
    go_loopw [19] (fun i wr => ∃ (k : Nat) (n : Int), k ≤ l.length ∧ i = .int .i64 k ∧ Hid (SumW w wr cur n) ∧ Hid (sumE cur n (l.drop k) = sumE cur 0 l) ∧ Hid (sumN n (l.drop k) = sumN 0 l)) (fun i _ => l.length - (intOf i).toNat)
    case atStart =>
      refine ⟨0, 0, Nat.zero_le _, rfl, Lib.hid ⟨?_, ?_, ?_, ?_⟩, Lib.hid rfl, Lib.hid rfl⟩
      · rw [(alloc_refl (w.alloc (.cells #[.int .i64 0, .string ⟨#[]⟩] 23)) _).block _ (by simp)]; exact (MapKept.heap_alloc w _).1
      · have := (MapKept.heap_alloc (w.alloc (.cells #[.int .i64 0, .string ⟨#[]⟩] 23)) (.cells #[.int .i64 0, .string cur] 23)).1
        simpa using this
      · exact (alloc_refl _ _).alloc (by simp) _
      · simp
    case round =>
      obtain ⟨k, n, hk, rfl, hst, hse, hsn⟩ := hrel
      have r0 := cell_c hst.out.res 0
      have r1 := cell_c hst.out.res 1
      have g0 := cell_f hst.out.res 0
      have g1 := cell_f hst.out.res 1
      have a0 := cell_c hst.out.acc 0
      have a1 := cell_c hst.out.acc 1
      have f0 := cell_f hst.out.acc 0
      have f1 := cell_f hst.out.acc 1
      have z0 : w.heap.size < wr.heap.size := by have := hst.out.lt; omega
      have z1 : w.heap.size + 1 < wr.heap.size := hst.out.lt
      by_cases hlt : k < l.length
      · rcases HR.out.below hst.out.bel with h0 | ⟨b, off, rfl, hc⟩
        · rw [flat_length Mny.cells 2 l (fun _ _ => rfl)] at h0; omega
        obtain ⟨e0, e1⟩ := flat_cells l k hlt
        have c0 := hc _ _ e0
        have c1 := hc _ _ e1
        rw [← Nat.add_assoc] at c1
        have hbl : b < wr.heap.size := World.block_lt_of_cell? wr _ c0
        have hsz := HOK.out _ (List.getElem_mem hlt)
        have hss := sum_step (cur := cur) (n := n) hlt
        rw [hse.out] at hss
        have hsn' := sumN_step (n := n) hlt
        rw [hsn.out] at hsn'
        generalize l[k].a = xa at *
        generalize l[k].s = xs at *
        have hAD := fun W => add_any n cur xa xs W HS.out hsz
        unfold CombPost at hAD
        have i1 : (k : Int) < (l.length : Int) := by omega
        clear hse hsn hc e0 e1 hsz
        by_cases he : combE (pairE n cur xa xs) (n + xa) = 0
        · rw [if_pos he] at hss
          obtain ⟨hp, hi⟩ := comb_zero he
          rw [he, hp, (comb_in (s := cur) hi).2] at hAD
          unfold monV at hAD
          have HAD := Lib.hid hAD
          have HSS := Lib.hid hss.symm
          have HSN := Lib.hid hsn'.symm
          obtain ⟨m, hm⟩ : ∃ m, n + xa = m := ⟨_, rfl⟩
          rw [hm] at HAD HSS HSN
          clear he hss hsn' hp hi hAD hm
          go_wp2_with fail
          refine (HAD.out _).mono ?_
          rintro e w2 ⟨rfl, hb⟩
          obtain ⟨kk, zz, hb1⟩ := box1 hb
          have HST := Lib.hid (hst.out.below hb1)
          clear hb hb1 kk zz r0 r1 g0 g1 a0 a1 f0 f1 c0 c1 z0 z1
          have r0 := cell_c HST.out.res 0
          have r1 := cell_c HST.out.res 1
          have g0 := cell_f HST.out.res 0
          have g1 := cell_f HST.out.res 1
          have a0 := cell_c HST.out.acc 0
          have a1 := cell_c HST.out.acc 1
          have f0 := cell_f HST.out.acc 0
          have f1 := cell_f HST.out.acc 1
          have z0 : w.heap.size < w2.heap.size := by have := HST.out.lt; omega
          have z1 : w.heap.size + 1 < w2.heap.size := HST.out.lt
          have HST3 := Lib.hid ((HST.out.put (m := m)).below (alloc_refl _ (.cells #[.int .i64 m, .string cur] 23)))
          go_wp2_with fail
          go_roundw
          case rel => exact ⟨k + 1, m, by omega, by go_num, HST3, HSS, HSN⟩
          case measure => simp [intOf]; omega
        · rw [if_neg he] at hss
          have he' : (combE (pairE n cur xa xs) (n + xa) != 0) = true := bne_iff_ne.2 he
          rw [comb_non he] at hAD
          have HEV : Hid (sumER cur l = combE (pairE n cur xa xs) (n + xa) ∧ sumV cur l = zeroM) := by
            have h1 : sumER cur l = combE (pairE n cur xa xs) (n + xa) := by rw [HE.out, hss]
            exact ⟨h1, by unfold sumV; rw [h1, if_neg he]⟩
          unfold zeroM at hAD
          generalize combE (pairE n cur xa xs) (n + xa) = EE at *
          have HAD := Lib.hid hAD
          clear he hss hsn' hAD
          go_wp2_with fail
          refine (HAD.out _).mono ?_
          rintro e w2 ⟨rfl, hb⟩
          obtain ⟨kk, zz, hb1⟩ := box1 hb
          have HST := Lib.hid (hst.out.below hb1)
          clear hb hb1 kk zz r0 r1 g0 g1 a0 a1 f0 f1 c0 c1 z0 z1
          have r0 := cell_c HST.out.res 0
          have r1 := cell_c HST.out.res 1
          have g0 := cell_f HST.out.res 0
          have g1 := cell_f HST.out.res 1
          have z0 : w.heap.size < w2.heap.size := by have := HST.out.lt; omega
          go_wp2_with fail
          refine bodyPost_ret (v := .tuple #[zeroM, .int .i64 EE]) ?_ rfl ?_
          · have hres : Tryd.f27.results = #[.cell 4 23, .tmp 5] := by kernel_rfl
            simp only [results, hres]
            go_simp
            rfl
          · exact ⟨by rw [HEV.out.1, HEV.out.2], ((HST.out.bel.setCell (p := ⟨w.heap.size, 0, none⟩) (by simp) _).setCell (p := ⟨w.heap.size, 1, none⟩) (by simp) _).alloc (by simpa using HST.out.bel.size) _⟩
      · obtain rfl : k = l.length := by omega
        have h1 := hse.out
        have h2 := hsn.out
        rw [List.drop_length] at h1 h2
        have HEV : Hid (sumER cur l = 0 ∧ sumV cur l = monV n cur) := by
          have e1 : sumER cur l = 0 := by rw [HE.out, ← h1]; rfl
          exact ⟨e1, by unfold sumV; rw [e1, if_pos rfl, ← h2]; rfl⟩
        clear h1 h2
        go_wp2_with fail
        refine bodyPost_ret (v := .tuple #[monV n cur, .int .i64 0]) ?_ rfl ?_
        · have hres : Tryd.f27.results = #[.cell 4 23, .tmp 5] := by kernel_rfl
          simp only [results, hres]
          go_simp
          rfl
        · exact ⟨by rw [HEV.out.1, HEV.out.2], (hst.out.bel.setCell (p := ⟨w.heap.size, 0, none⟩) (by simp) _).setCell (p := ⟨w.heap.size, 1, none⟩) (by simp) _⟩
set_option maxHeartbeats 6400000 in
set_option maxRecDepth 100000 in
theorem rsum_any (cur : ByteArray) (A : Option Addr) (c : Nat) (l : List Mny) (w : World) (hr : IsRow w A (l.flatMap Mny.cells)) (hok : ∀ x ∈ l, x.s.size ≤ maxLen) (hl : l.length ≤ 100) (hs : cur.size ≤ maxLen) :
    Calls Tryd.prog 28 #[.string cur, .slice A l.length c] w (SumPost cur l w) := by
  have HC := Lib.hid (fun W => rcur_any cur W hs)
  have HR := Lib.hid hr
  have HOK := Lib.hid hok
  have HS := Lib.hid hs
  clear hr hok hs
  cases hc : curB cur
  · have HE := Lib.hid (show sumER cur l = 11 by unfold sumER; rw [hc]; rfl)
    have HV := Lib.hid (show sumV cur l = zeroM by unfold sumV; rw [HE.out]; rfl)
    rw [hc] at HC
    clear hc
    go_enter Tryd.func28, Tryd.ntmps28
    go_wp2_with fail
    refine (HC.out _).mono ?_
    rintro e w1 ⟨rfl, rfl⟩
    go_wp2_with fail
    refine bodyPost_ret (v := .tuple #[zeroM, .int .i64 11]) ?_ rfl ?_
    · have hres : Tryd.f28.results = #[.cell 4 23, .tmp 5] := by kernel_rfl
      simp only [results, hres]
      go_simp
      rfl
    · exact ⟨by rw [HV.out, HE.out], (alloc_refl _ _).alloc (by simp) _⟩
  · have HE := Lib.hid (show sumER cur l = sumE cur 0 l by unfold sumER; rw [hc]; rfl)
    rw [hc] at HC
    clear hc
    go_enter Tryd.func28, Tryd.ntmps28
    go_wp2_with fail
    refine (HC.out _).mono ?_
    rintro e w1 ⟨rfl, rfl⟩
    go_wp2_with fail
    go_loopw [7] (fun i wr => ∃ (k : Nat) (n : Int), k ≤ l.length ∧ i = .int .i64 k ∧ Hid (SumW w wr cur n) ∧ Hid (sumE cur n (l.drop k) = sumE cur 0 l) ∧ Hid (sumN n (l.drop k) = sumN 0 l)) (fun i _ => l.length - (intOf i).toNat)
    case atStart =>
      refine ⟨0, 0, Nat.zero_le _, rfl, Lib.hid ⟨?_, ?_, ?_, ?_⟩, Lib.hid rfl, Lib.hid rfl⟩
      · rw [(alloc_refl (w.alloc (.cells #[.int .i64 0, .string ⟨#[]⟩] 23)) _).block _ (by simp)]; exact (MapKept.heap_alloc w _).1
      · have := (MapKept.heap_alloc (w.alloc (.cells #[.int .i64 0, .string ⟨#[]⟩] 23)) (.cells #[.int .i64 0, .string cur] 23)).1
        simpa using this
      · exact (alloc_refl _ _).alloc (by simp) _
      · simp
    case round =>
      obtain ⟨k, n, hk, rfl, hst, hse, hsn⟩ := hrel
      have r0 := cell_c hst.out.res 0
      have r1 := cell_c hst.out.res 1
      have g0 := cell_f hst.out.res 0
      have g1 := cell_f hst.out.res 1
      have a0 := cell_c hst.out.acc 0
      have a1 := cell_c hst.out.acc 1
      have f0 := cell_f hst.out.acc 0
      have f1 := cell_f hst.out.acc 1
      have z0 : w.heap.size < wr.heap.size := by have := hst.out.lt; omega
      have z1 : w.heap.size + 1 < wr.heap.size := hst.out.lt
      by_cases hlt : k < l.length
      · rcases HR.out.below hst.out.bel with h0 | ⟨b, off, rfl, hc⟩
        · rw [flat_length Mny.cells 2 l (fun _ _ => rfl)] at h0; omega
        obtain ⟨e0, e1⟩ := flat_cells l k hlt
        have c0 := hc _ _ e0
        have c1 := hc _ _ e1
        rw [← Nat.add_assoc] at c1
        have hbl : b < wr.heap.size := World.block_lt_of_cell? wr _ c0
        have hsz := HOK.out _ (List.getElem_mem hlt)
        have hss := sum_step (cur := cur) (n := n) hlt
        rw [hse.out] at hss
        have hsn' := sumN_step (n := n) hlt
        rw [hsn.out] at hsn'
        generalize l[k].a = xa at *
        generalize l[k].s = xs at *
        have hAD := fun W => radd_any n cur xa xs W HS.out hsz
        unfold CombPost at hAD
        have i1 : (k : Int) < (l.length : Int) := by omega
        clear hse hsn hc e0 e1 hsz
        by_cases he : combE (pairE n cur xa xs) (n + xa) = 0
        · rw [if_pos he] at hss
          obtain ⟨hp, hi⟩ := comb_zero he
          rw [he, hp, (comb_in (s := cur) hi).2] at hAD
          unfold monV at hAD
          have HAD := Lib.hid hAD
          have HSS := Lib.hid hss.symm
          have HSN := Lib.hid hsn'.symm
          obtain ⟨m, hm⟩ : ∃ m, n + xa = m := ⟨_, rfl⟩
          rw [hm] at HAD HSS HSN
          clear he hss hsn' hp hi hAD hm
          go_wp2_with fail
          have HBW : Hid (Below wr.heap.size wr wr.drew) := Lib.hid ((Below.refl _ _).drew)
          go_region_held3 (fun w' => Below wr.heap.size wr w' ∧ w'.cell? ⟨w.heap.size + 1, 0, none⟩ = some (.int .i64 n) ∧ w'.cell? ⟨w.heap.size + 1, 1, none⟩ = some (.string cur) ∧ w'.cell? ⟨b, off + k * 2, none⟩ = some (.int .i64 xa) ∧ w'.cell? ⟨b, off + k * 2 + 1, none⟩ = some (.string xs))
            (first
              | exact keepS HBW.out a0 a1 c0 c1
              | exact keepS ((HBW.out.setCell (p := ⟨wr.heap.size, 0, none⟩) (Nat.le_refl _) _).setCell (p := ⟨wr.heap.size, 1, none⟩) (Nat.le_refl _) _) a0 a1 c0 c1
              | exact keepS (HBW.out.alloc HBW.out.size _) a0 a1 c0 c1)
            ((go_at_call 21; refine (HAD.out _).mono ?_; rintro e w2 ⟨rfl, hb⟩; first | (have HBW := Lib.hid (HBW.out.trans (hb.mono HBW.out.size))) | (have hq : Below wr.heap.size wr ((wr.alloc (.cells #[.int .i64 0, .string ⟨#[]⟩] 23)).drew) := Below.drew ((Below.refl wr.heap.size wr).alloc (Nat.le_refl _) _); have hkz := zblk hb; have zc0 := cell_c hkz.1 0; have zc1 := cell_c hkz.1 1; have zf0 := cell_f hkz.1 0; have zf1 := cell_f hkz.1 1; have zlt := hkz.2; have KZ := Lib.hid hkz; clear hkz; have HBW := Lib.hid (hq.trans (hb.mono hq.size)))))
          all_goals
            first
              | (have HBX := Lib.hid ((HBW.out.setCell (p := ⟨wr.heap.size, 0, none⟩) (Nat.le_refl _) (.int .i64 m)).setCell (p := ⟨wr.heap.size, 1, none⟩) (Nat.le_refl _) (.string cur)); have K8 := Lib.hid (set2 (x' := .int .i64 m) (y' := .string cur) KZ.out.1); clear zc0 zc1 zf0 zf1 zlt; generalize (w2.setCell ⟨wr.heap.size, 0, none⟩ (.int .i64 m)).setCell ⟨wr.heap.size, 1, none⟩ (.string cur) = W3 at *)
              | (have HBX := Lib.hid (HBW.out.alloc HBW.out.size (.cells #[.int .i64 m, .string cur] 23)); have K8 := Lib.hid (MapKept.heap_alloc w2 (.cells #[.int .i64 m, .string cur] 23)).1; generalize w2.alloc (.cells #[.int .i64 m, .string cur] 23) = W3 at *; generalize w2.heap.size = p8 at *)
            have HST := Lib.hid (hst.out.below HBX.out)
            clear r0 r1 g0 g1 a0 a1 f0 f1 c0 c1 z0 z1 HBW
            have c80 := cell_c K8.out 0
            have c81 := cell_c K8.out 1
            obtain ⟨w2, rfl⟩ : ∃ w2 : World, w2 = W3 := ⟨_, rfl⟩
            have r0 := cell_c HST.out.res 0
            have r1 := cell_c HST.out.res 1
            have g0 := cell_f HST.out.res 0
            have g1 := cell_f HST.out.res 1
            have a0 := cell_c HST.out.acc 0
            have a1 := cell_c HST.out.acc 1
            have f0 := cell_f HST.out.acc 0
            have f1 := cell_f HST.out.acc 1
            have z0 : w.heap.size < w2.heap.size := by have := HST.out.lt; omega
            have z1 : w.heap.size + 1 < w2.heap.size := HST.out.lt
            have HST3 := Lib.hid (HST.out.put (m := m))
            go_wp2_with fail
            go_roundw
            case rel => exact ⟨k + 1, m, by omega, by go_num, HST3, HSS, HSN⟩
            case measure => simp [intOf]; omega
        · rw [if_neg he] at hss
          have he' : (combE (pairE n cur xa xs) (n + xa) != 0) = true := bne_iff_ne.2 he
          rw [comb_non he] at hAD
          have HEV : Hid (sumER cur l = combE (pairE n cur xa xs) (n + xa) ∧ sumV cur l = zeroM) := by
            have h1 : sumER cur l = combE (pairE n cur xa xs) (n + xa) := by rw [HE.out, hss]
            exact ⟨h1, by unfold sumV; rw [h1, if_neg he]⟩
          unfold zeroM at hAD
          generalize combE (pairE n cur xa xs) (n + xa) = EE at *
          have HAD := Lib.hid hAD
          clear he hss hsn' hAD
          go_wp2_with fail
          have HBW : Hid (Below wr.heap.size wr wr.drew) := Lib.hid ((Below.refl _ _).drew)
          go_region_held3 (fun w' => Below wr.heap.size wr w' ∧ w'.cell? ⟨w.heap.size + 1, 0, none⟩ = some (.int .i64 n) ∧ w'.cell? ⟨w.heap.size + 1, 1, none⟩ = some (.string cur) ∧ w'.cell? ⟨b, off + k * 2, none⟩ = some (.int .i64 xa) ∧ w'.cell? ⟨b, off + k * 2 + 1, none⟩ = some (.string xs))
            (first
              | exact keepS HBW.out a0 a1 c0 c1
              | exact keepS ((HBW.out.setCell (p := ⟨wr.heap.size, 0, none⟩) (Nat.le_refl _) _).setCell (p := ⟨wr.heap.size, 1, none⟩) (Nat.le_refl _) _) a0 a1 c0 c1
              | exact keepS (HBW.out.alloc HBW.out.size _) a0 a1 c0 c1)
            ((go_at_call 21; refine (HAD.out _).mono ?_; rintro e w2 ⟨rfl, hb⟩; first | (have HBW := Lib.hid (HBW.out.trans (hb.mono HBW.out.size))) | (have hq : Below wr.heap.size wr ((wr.alloc (.cells #[.int .i64 0, .string ⟨#[]⟩] 23)).drew) := Below.drew ((Below.refl wr.heap.size wr).alloc (Nat.le_refl _) _); have hkz := zblk hb; have zc0 := cell_c hkz.1 0; have zc1 := cell_c hkz.1 1; have zf0 := cell_f hkz.1 0; have zf1 := cell_f hkz.1 1; have zlt := hkz.2; have KZ := Lib.hid hkz; clear hkz; have HBW := Lib.hid (hq.trans (hb.mono hq.size)))))
          all_goals
            first
              | (have HBX := Lib.hid ((HBW.out.setCell (p := ⟨wr.heap.size, 0, none⟩) (Nat.le_refl _) (.int .i64 0)).setCell (p := ⟨wr.heap.size, 1, none⟩) (Nat.le_refl _) (.string ⟨#[]⟩)); have K8 := Lib.hid (set2 (x' := .int .i64 0) (y' := .string ⟨#[]⟩) KZ.out.1); clear zc0 zc1 zf0 zf1 zlt; generalize (w2.setCell ⟨wr.heap.size, 0, none⟩ (.int .i64 0)).setCell ⟨wr.heap.size, 1, none⟩ (.string ⟨#[]⟩) = W3 at *)
              | (have HBX := Lib.hid (HBW.out.alloc HBW.out.size (.cells #[.int .i64 0, .string ⟨#[]⟩] 23)); have K8 := Lib.hid (MapKept.heap_alloc w2 (.cells #[.int .i64 0, .string ⟨#[]⟩] 23)).1; generalize w2.alloc (.cells #[.int .i64 0, .string ⟨#[]⟩] 23) = W3 at *; generalize w2.heap.size = p8 at *)
            have HST := Lib.hid (hst.out.below HBX.out)
            clear r0 r1 g0 g1 a0 a1 f0 f1 c0 c1 z0 z1 HBW
            have c80 := cell_c K8.out 0
            have c81 := cell_c K8.out 1
            obtain ⟨w2, rfl⟩ : ∃ w2 : World, w2 = W3 := ⟨_, rfl⟩
            have r0 := cell_c HST.out.res 0
            have r1 := cell_c HST.out.res 1
            have g0 := cell_f HST.out.res 0
            have g1 := cell_f HST.out.res 1
            have z0 : w.heap.size < w2.heap.size := by have := HST.out.lt; omega
            go_wp2_with fail
            refine bodyPost_ret (v := .tuple #[zeroM, .int .i64 EE]) ?_ rfl ?_
            · have hres : Tryd.f28.results = #[.cell 4 23, .tmp 5] := by kernel_rfl
              simp only [results, hres]
              go_simp
              rfl
            · exact ⟨by rw [HEV.out.1, HEV.out.2], (HST.out.bel.setCell (p := ⟨w.heap.size, 0, none⟩) (by simp) _).setCell (p := ⟨w.heap.size, 1, none⟩) (by simp) _⟩
      · obtain rfl : k = l.length := by omega
        have h1 := hse.out
        have h2 := hsn.out
        rw [List.drop_length] at h1 h2
        have HEV : Hid (sumER cur l = 0 ∧ sumV cur l = monV n cur) := by
          have e1 : sumER cur l = 0 := by rw [HE.out, ← h1]; rfl
          exact ⟨e1, by unfold sumV; rw [e1, if_pos rfl, ← h2]; rfl⟩
        clear h1 h2
        go_wp2_with fail
        refine bodyPost_ret (v := .tuple #[monV n cur, .int .i64 0]) ?_ rfl ?_
        · have hres : Tryd.f28.results = #[.cell 4 23, .tmp 5] := by kernel_rfl
          simp only [results, hres]
          go_simp
          rfl
        · exact ⟨by rw [HEV.out.1, HEV.out.2], (hst.out.bel.setCell (p := ⟨w.heap.size, 0, none⟩) (by simp) _).setCell (p := ⟨w.heap.size, 1, none⟩) (by simp) _⟩
end Go.Proofs.YtadehobimlpmcaaDoor
