/- Part of the proof over this seat. -/
import Derived.Outline
import Derived.Deep.RegionHeld3
import Derived.Test.YthflmdgfenojcaaGreatDoorQCr
import Derived.Test.YthflmdgfenojcaaGreatDoorQBnm
import Derived.Test.YthflmdgfenojcaaGreatDoorQSum
import Derived.Test.YthflmdgfenojcaaGreatDoorQPr
namespace Go.Proofs.YthflmdgfenojcaaGreatDoor
set_option linter.unusedVariables false
open Go.RowKit
theorem mkrec : (Tryz.prog.info? 57).map (fun i => (i.zero, i.size, i.bytes)) = some (some zrec.val, 12, 152) := by kernel_rfl
theorem make_rec (n : Nat) (hn : n ≤ 1000000) (w : World) :
    (Instr.makeSlice 34 (.int .i64 (n : Int)) (.int .i64 (n : Int))).run Tryz.prog w = .ok (.slice (some ⟨w.heap.size, 0, none⟩) n n) (w.alloc (.cells (madeCells zrec.cells (n * 12)) 57)) := by
  obtain ⟨i0, hi0, hz0, hz1, hz2⟩ := info_parts mkrec
  have := run_make w 34 57 i0 _ Tryz.underlying34 hi0 hz0 .i64 .i64 (n : Int) (n : Int) (by omega) (by omega) (by rw [hz2]; omega) (by omega)
  rw [this, hz1]
  rfl
theorem recF_get (r : Rec) (i : Nat) : (recF r)[i]? = r.cells[i]? := by
  show _ = (recF r).toArray[i]?
  rw [List.getElem?_toArray]
theorem made_rec (n j i : Nat) (hj : j < n) (hi : i < 12) : (madeCells zrec.cells (n * 12))[j * 12 + i]? = (recF zrec)[i]? := by
  unfold madeCells
  have hs : zrec.cells.size = 12 := rfl
  have h1 : j * 12 + i < n * 12 := by omega
  rw [Array.getElem?_map, Array.getElem?_range, if_pos h1, Option.map_some, hs, show (j * 12 + i) % 12 = i by omega, recF_get, Array.getElem?_eq_getElem (by rw [hs]; exact hi)]
  congr 1
  exact getElem!_pos zrec.cells i (by rw [hs]; exact hi)
/-- The records so far. -/
def clAt (l : List ByteArray) (k j : Nat) : Rec := if j < k then clm (prt l j) else zrec
structure ClR (l : List ByteArray) (k : Nat) (C : Array Value) : Prop where
  n : C.size = l.length * 12
  v : ∀ j, j < l.length → ∀ i, i < 12 → C[j * 12 + i]? = (recF (clAt l k j))[i]?
theorem ClR.start (l : List ByteArray) : ClR l 0 (madeCells zrec.cells (l.length * 12)) :=
  ⟨size_madeCells _ _, fun j hj i hi => by rw [made_rec _ _ _ hj hi]; unfold clAt; rw [if_neg (by omega)]⟩
theorem ClR.same {l : List ByteArray} {k : Nat} {C : Array Value} (h : ClR l k C) (hz : clm (prt l k) = zrec) : ClR l (k + 1) C :=
  ⟨h.n, fun j hj i hi => by
    rw [h.v j hj i hi]
    unfold clAt
    rcases Nat.lt_trichotomy j k with c | c | c
    · rw [if_pos c, if_pos (by omega)]
    · subst c; rw [if_neg (by omega), if_pos (by omega), hz]
    · rw [if_neg (by omega), if_neg (by omega)]⟩
theorem ClR.put {l : List ByteArray} {k : Nat} {C : Array Value} (h : ClR l k C) (hk : k < l.length) {kd am : Int} {ca : ByteArray} (hz : clm (prt l k) = ⟨kd, ⟨#[]⟩, ⟨#[]⟩, ⟨#[]⟩, ⟨#[]⟩, ⟨#[]⟩, ca, am, ⟨#[]⟩, 0, 0, false⟩) :
    ClR l (k + 1) (((C.setIfInBounds (k * 12) (.int .i64 kd)).setIfInBounds (k * 12 + 7) (.int .i64 am)).setIfInBounds (k * 12 + 6) (.string ca)) := by
  have hn := h.n
  refine ⟨by simp [hn], fun j hj i hi => ?_⟩
  have hne : ∀ i, i < 12 → j ≠ k → (((C.setIfInBounds (k * 12) (.int .i64 kd)).setIfInBounds (k * 12 + 7) (.int .i64 am)).setIfInBounds (k * 12 + 6) (.string ca))[j * 12 + i]? = C[j * 12 + i]? := fun i hi hj => by
    rw [Array.getElem?_setIfInBounds_ne (by omega), Array.getElem?_setIfInBounds_ne (by omega), Array.getElem?_setIfInBounds_ne (by omega)]
  rcases Nat.lt_trichotomy j k with c | c | c
  · rw [hne i hi (by omega), h.v j hj i hi]
    unfold clAt; rw [if_pos c, if_pos (by omega)]
  · subst c
    have h0 := h.v j hj
    unfold clAt at h0 ⊢
    simp only [Nat.lt_irrefl, if_false] at h0
    rw [if_pos (by omega), hz]
    have e : j * 12 + 0 = j * 12 := rfl
    match i, hi with
    | 0, _ => rw [Array.getElem?_setIfInBounds_ne (by omega), Array.getElem?_setIfInBounds_ne (by omega), e, Array.getElem?_setIfInBounds_self_of_lt (by omega)]; rfl
    | 1, _ => rw [Array.getElem?_setIfInBounds_ne (by omega), Array.getElem?_setIfInBounds_ne (by omega), Array.getElem?_setIfInBounds_ne (by omega), h0 1 (by omega)]; rfl
    | 2, _ => rw [Array.getElem?_setIfInBounds_ne (by omega), Array.getElem?_setIfInBounds_ne (by omega), Array.getElem?_setIfInBounds_ne (by omega), h0 2 (by omega)]; rfl
    | 3, _ => rw [Array.getElem?_setIfInBounds_ne (by omega), Array.getElem?_setIfInBounds_ne (by omega), Array.getElem?_setIfInBounds_ne (by omega), h0 3 (by omega)]; rfl
    | 4, _ => rw [Array.getElem?_setIfInBounds_ne (by omega), Array.getElem?_setIfInBounds_ne (by omega), Array.getElem?_setIfInBounds_ne (by omega), h0 4 (by omega)]; rfl
    | 5, _ => rw [Array.getElem?_setIfInBounds_ne (by omega), Array.getElem?_setIfInBounds_ne (by omega), Array.getElem?_setIfInBounds_ne (by omega), h0 5 (by omega)]; rfl
    | 6, _ => rw [Array.getElem?_setIfInBounds_self_of_lt (by simp; omega)]; rfl
    | 7, _ => rw [Array.getElem?_setIfInBounds_ne (by omega), Array.getElem?_setIfInBounds_self_of_lt (by simp; omega)]; rfl
    | 8, _ => rw [Array.getElem?_setIfInBounds_ne (by omega), Array.getElem?_setIfInBounds_ne (by omega), Array.getElem?_setIfInBounds_ne (by omega), h0 8 (by omega)]; rfl
    | 9, _ => rw [Array.getElem?_setIfInBounds_ne (by omega), Array.getElem?_setIfInBounds_ne (by omega), Array.getElem?_setIfInBounds_ne (by omega), h0 9 (by omega)]; rfl
    | 10, _ => rw [Array.getElem?_setIfInBounds_ne (by omega), Array.getElem?_setIfInBounds_ne (by omega), Array.getElem?_setIfInBounds_ne (by omega), h0 10 (by omega)]; rfl
    | 11, _ => rw [Array.getElem?_setIfInBounds_ne (by omega), Array.getElem?_setIfInBounds_ne (by omega), Array.getElem?_setIfInBounds_ne (by omega), h0 11 (by omega)]; rfl
  · rw [hne i hi (by omega), h.v j hj i hi]
    unfold clAt; rw [if_neg (by omega), if_neg (by omega)]
structure ClS (l : List ByteArray) (k : Nat) (C : Array Value) (w W : World) : Prop where
  h : W.heap[w.heap.size]? = some (.cells C 57)
  r : ClR l k C
  b : Below w.heap.size w W
theorem ClS.below {l : List ByteArray} {k : Nat} {C : Array Value} {w W W' : World} (h : ClS l k C w W) (hb : Below W.heap.size W W') : ClS l k C w W' := ⟨blk_later h.h hb, h.r, h.b.trans (hb.mono h.b.size)⟩
theorem ClS.put {l : List ByteArray} {k : Nat} {C : Array Value} {w W : World} (h : ClS l k C w W) (hk : k < l.length) {kd am : Int} {ca : ByteArray} (hz : clm (prt l k) = ⟨kd, ⟨#[]⟩, ⟨#[]⟩, ⟨#[]⟩, ⟨#[]⟩, ⟨#[]⟩, ca, am, ⟨#[]⟩, 0, 0, false⟩) :
    ClS l (k + 1) (((C.setIfInBounds (k * 12) (.int .i64 kd)).setIfInBounds (k * 12 + 7) (.int .i64 am)).setIfInBounds (k * 12 + 6) (.string ca)) w (((W.setCell ⟨w.heap.size, k * 12, none⟩ (.int .i64 kd)).setCell ⟨w.heap.size, k * 12 + 7, none⟩ (.int .i64 am)).setCell ⟨w.heap.size, k * 12 + 6, none⟩ (.string ca)) :=
  ⟨heap_set1 (heap_set1 (heap_set1 h.h _ _) _ _) _ _, h.r.put hk hz, ((h.b.setCell (p := ⟨w.heap.size, k * 12, none⟩) (Nat.le_refl _) _).setCell (p := ⟨w.heap.size, k * 12 + 7, none⟩) (Nat.le_refl _) _).setCell (p := ⟨w.heap.size, k * 12 + 6, none⟩) (Nat.le_refl _) _⟩
theorem ClS.cells {l : List ByteArray} {k : Nat} {C : Array Value} {w W : World} (h : ClS l k C w W) (hk : k < l.length) : W.cell? ⟨w.heap.size, k * 12, none⟩ = some (.int .i64 0) ∧ W.cell? ⟨w.heap.size, k * 12 + 7, none⟩ = some (.int .i64 0) ∧ W.cell? ⟨w.heap.size, k * 12 + 6, none⟩ = some (.string ⟨#[]⟩) ∧ (∀ o, W.frozen? ⟨w.heap.size, o, none⟩ = false) := by
  have hv := h.r.v k hk
  unfold clAt at hv
  simp only [Nat.lt_irrefl, if_false] at hv
  refine ⟨(cell_c h.h _).trans (hv 0 (by omega)), (cell_c h.h _).trans (hv 7 (by omega)), (cell_c h.h _).trans (hv 6 (by omega)), fun o => cell_f h.h o⟩
theorem ClS.row {l : List ByteArray} {C : Array Value} {w W : World} (h : ClS l l.length C w W) : IsRow W (some ⟨w.heap.size, 0, none⟩) ((l.map clm).flatMap recF) := by
  refine .inr ⟨_, 0, rfl, fun j v hj => ?_⟩
  rw [cell_c h.h, Nat.zero_add]
  have hlen : ((l.map clm).flatMap recF).length = l.length * 12 := by
    clear h hj
    induction l with
    | nil => rfl
    | cons x l ih =>
      rw [List.map_cons, List.flatMap_cons, List.length_append, ih, List.length_cons]
      have : (recF (clm x)).length = 12 := rfl
      omega
  have hj' := (List.getElem?_eq_some_iff.1 hj).1
  rw [hlen] at hj'
  have e : j = j / 12 * 12 + j % 12 := by omega
  have hq : j / 12 < l.length := by omega
  have h1 := h.r.v (j / 12) hq (j % 12) (by omega)
  have h2 := rec_cells (l.map clm) (j / 12) (by simpa using hq) (j % 12) (by omega)
  rw [← e] at h1 h2
  rw [h1, ← hj, h2]
  unfold clAt
  rw [if_pos hq]
  congr 2
  rw [List.getElem_map]
  unfold prt
  rw [List.getD_eq_getElem?_getD, List.getElem?_eq_getElem hq]; rfl
theorem clm_no {x : ByteArray} (h : (cutS x).length ≠ 13) : clm x = zrec := by unfold clm; rw [if_neg (fun q => h q.1)]
theorem clm_no1 {x : ByteArray} (h : numOK (prt (cutS x) 1) = false) : clm x = zrec := by unfold clm; rw [if_neg (fun q => by rw [h] at q; exact absurd q.2.1 (by decide))]
theorem clm_no8 {x : ByteArray} (h : numOK (prt (cutS x) 8) = false) : clm x = zrec := by unfold clm; rw [if_neg (fun q => by rw [h] at q; exact absurd q.2.2 (by decide))]
theorem clm_yes {x : ByteArray} (h : (cutS x).length = 13) (h1 : numOK (prt (cutS x) 1) = true) (h8 : numOK (prt (cutS x) 8) = true) : clm x = ⟨numV (prt (cutS x) 1), ⟨#[]⟩, ⟨#[]⟩, ⟨#[]⟩, ⟨#[]⟩, ⟨#[]⟩, prt (cutS x) 7, numV (prt (cutS x) 8), ⟨#[]⟩, 0, 0, false⟩ := by unfold clm; rw [if_pos ⟨h, h1, h8⟩]
def ClmPost (l : List ByteArray) (w : World) (e : Ending) (w' : World) : Prop := e = .returned (.slice (some ⟨w.heap.size, 0, none⟩) l.length l.length) ∧ IsRow w' (some ⟨w.heap.size, 0, none⟩) ((l.map clm).flatMap recF) ∧ Below w.heap.size w w'
theorem row_str {W : World} {A : Option Addr} {l : List ByteArray} (hr : IsRow W A (l.map Value.string)) (j : Nat) (h : j < l.length) : ∃ b off, A = some ⟨b, off, none⟩ ∧ ∀ k, k < l.length → W.cell? ⟨b, off + k, none⟩ = some (.string (prt l k)) := by
  rcases hr with hr | ⟨b, off, rfl, hr⟩
  · rw [List.length_map] at hr; omega
  · refine ⟨b, off, rfl, fun k hk => hr k _ ?_⟩
    rw [List.getElem?_map, List.getElem?_eq_getElem hk]
    unfold prt
    rw [List.getD_eq_getElem?_getD, List.getElem?_eq_getElem hk]; rfl
set_option maxRecDepth 1000000 in
set_option maxHeartbeats 12800000 in
theorem clm_any (A : Option Addr) (cp : Nat) (l : List ByteArray) (w : World) (hw : KW w) (hr : IsRow w A (l.map Value.string)) (hs : ∀ j, (prt l j).size ≤ 1000000) (hn : l.length ≤ 1000000) : Calls Tryz.prog 150 #[.slice A l.length cp] w (ClmPost l w) := by
  have HR := Lib.hid hr
  have HKW := Lib.hid hw
  have HSZ := Lib.hid hs
  have hmk := make_rec l.length hn
  have HS0 : Hid (ClS l 0 (madeCells zrec.cells (l.length * 12)) w (w.alloc (.cells (madeCells zrec.cells (l.length * 12)) 57))) := Lib.hid ⟨heap_alloc_new _ _, ClR.start l, bx w _⟩
  unfold ClmPost
  clear hr hw hs
  generalize madeCells zrec.cells (l.length * 12) = C0 at *
  go_enter Tryz.func150, Tryz.ntmps150
  go_wp2_with fail
  clear hmk
  go_loopw [16] (fun i wr => ∃ (k : Nat) (C : Array Value), k ≤ l.length ∧ i = .int .i64 k ∧ Hid (ClS l k C w wr)) (fun i _ => l.length - (intOf i).toNat)
  case atStart => exact ⟨0, C0, Nat.zero_le _, rfl, HS0⟩
  case round =>
    clear HS0
    obtain ⟨k, C, hk, rfl, HW⟩ := hrel
    by_cases hlt : k < l.length
    · rcases row_str HR.out k hlt with ⟨b, off, rfl, hcell⟩
      have cx := cell_later HW.out.b (hcell k hlt)
      have HSP := Lib.hid (split_any (prt l k) wr (HKW.out.below HW.out.b) (HSZ.out k))
      have HPZ := Lib.hid (fun j => Nat.le_trans (prt_size (prt l k) j) (HSZ.out k))
      have HNO := Lib.hid (clm_no (x := prt l k))
      have HN1 := Lib.hid (clm_no1 (x := prt l k))
      have HN8 := Lib.hid (clm_no8 (x := prt l k))
      have HYE := Lib.hid (clm_yes (x := prt l k))
      have HSM : Hid (clm (prt l k) = zrec → ∀ W, ClS l k C w W → ClS l (k + 1) C w W) := Lib.hid (fun hz W h => ⟨h.h, h.r.same hz, h.b⟩)
      have HPT := Lib.hid (fun (kd am : Int) (ca : ByteArray) hz W (h : ClS l k C w W) => h.put hlt (kd := kd) (am := am) (ca := ca) hz)
      have HCL := Lib.hid (fun W (h : ClS l k C w W) => h.cells hlt)
      unfold SplPost at HSP
      generalize clm (prt l k) = cl at *
      generalize prt l k = x at *
      generalize cutS x = ps at *
      have kI : (k : Int) < (l.length : Int) := by omega
      have k0 : (0 : Int) ≤ (k : Int) := by omega
      clear hcell
      by_cases h13 : ps.length = 13
      · have z1 : ((ps.length : Int) != 13) = false := by simp; omega
        have HN := Lib.hid (fun j W hW => bnum_any (prt ps j) W hW (HPZ.out j))
        unfold NumPost at HN
        have HST := Lib.hid (fun j h => str_cell (W := wr.alloc (.cells (ps.map Value.string).toArray 9)) (heap_alloc_new wr _) j h)
        have HW1 := Lib.hid (HW.out.below (bx wr (.cells (ps.map Value.string).toArray 9)))
        generalize (ps.map Value.string).toArray = AR at *
        have s1 := HST.out 1 (by omega)
        have S7 := Lib.hid (HST.out 7 (by omega))
        have S8 := Lib.hid (HST.out 8 (by omega))
        rw [h13] at HSP
        clear z1 HST
        go_wp2_with fail
        refine HSP.out.mono ?_
        rintro e w1 ⟨rfl, rfl⟩
        go_wp2_with fail
        refine (HN.out 1 _ (HKW.out.below HW1.out.b)).mono ?_
        rintro e w2 ⟨rfl, hb⟩
        have HW2 := Lib.hid (HW1.out.below hb)
        have s8 := cell_later hb S8.out
        have S7' := Lib.hid (cell_later hb S7.out)
        clear hb s1
        go_wp2_with fail
        refine (HN.out 8 _ (HKW.out.below HW2.out.b)).mono ?_
        rintro e w3 ⟨rfl, hb⟩
        have HW3 := Lib.hid (HW2.out.below hb)
        have s7 := cell_later hb S7'.out
        clear hb s8
        cases q1 : numOK (prt ps 1) with
        | false =>
          have HX := Lib.hid (HSM.out (HN1.out q1) _ HW3.out)
          go_wp2_with fail
          go_roundw
          case rel => exact ⟨k + 1, C, by omega, by go_num, HX⟩
          case measure => simp [intOf]; omega
        | true =>
        cases q8 : numOK (prt ps 8) with
        | false =>
          have HX := Lib.hid (HSM.out (HN8.out q8) _ HW3.out)
          go_wp2_with fail
          go_roundw
          case rel => exact ⟨k + 1, C, by omega, by go_num, HX⟩
          case measure => simp [intOf]; omega
        | true =>
          have HX := Lib.hid (HPT.out _ _ _ (HYE.out h13 q1 q8) _ HW3.out)
          obtain ⟨d0, d7, d6, f⟩ := HCL.out _ HW3.out
          have f0 := f (k * 12)
          have f7 := f (k * 12 + 7)
          have f6 := f (k * 12 + 6)
          have hne : w.heap.size ≠ wr.heap.size := by have := (Array.getElem?_eq_some_iff.1 HW.out.h).1; omega
          clear f
          go_wp2_with fail
          go_roundw
          case rel => exact ⟨k + 1, _, by omega, by go_num, HX⟩
          case measure => simp [intOf]; omega
      · have z1 : ((ps.length : Int) != 13) = true := by simp; omega
        have HX := Lib.hid (HSM.out (HNO.out h13) _ (HW.out.below (bx wr (.cells (ps.map Value.string).toArray 9))))
        generalize (ps.map Value.string).toArray = AR at *
        go_wp2_with fail
        refine HSP.out.mono ?_
        rintro e w1 ⟨rfl, rfl⟩
        go_wp2_with fail
        go_roundw
        case rel => exact ⟨k + 1, C, by omega, by go_num, HX⟩
        case measure => simp [intOf]; omega
    · obtain rfl : k = l.length := by omega
      have hrw := Lib.hid HW.out.row
      go_wp2_with fail
      go_ret
      exact ⟨rfl, hrw.out, HW.out.b⟩
end Go.Proofs.YthflmdgfenojcaaGreatDoor
namespace Go.Proofs.YthflmdgfenojcaaGreatDoor
set_option linter.unusedVariables false
open Go.RowKit Go.Sort
/-- A divided file. -/
structure Frm where
  id : ByteArray
  sd : ByteArray
  dt : Int
  A : Option Addr
  n : Nat
  c : Nat
  t : Nat → Int
  ck : ByteArray
  cv : ByteArray
def Frm.cells (f : Frm) : Array Value := #[.string f.id, .string f.sd, .int .i64 f.dt, .slice f.A f.n f.c, .int .i64 (f.t 0), .int .i64 (f.t 1), .int .i64 (f.t 2), .int .i64 (f.t 3), .string f.ck, .string f.cv]
def Frm.val (f : Frm) : Value := .agg f.cells
def zfrm : Frm := ⟨⟨#[]⟩, ⟨#[]⟩, 0, none, 0, 0, fun _ => 0, ⟨#[]⟩, ⟨#[]⟩⟩
theorem info147 (f : Frm) : (Tryz.prog.info? 147).map (·.size) = some f.cells.size := by kernel_rfl
theorem frm_one (f : Frm) : f.cells.all (·.oneCell') = true := by unfold Frm.cells; simp [Value.oneCell']
structure DvS (L : List ByteArray) (w : World) (G FB : Nat) (F : Frm) (W : World) : Prop where
  k : W.heap[w.heap.size]? = some (.cells zfrm.cells 147)
  l : W.heap[G]? = some (.cells (L.map Value.string).toArray 9)
  f : W.heap[FB]? = some (.cells F.cells 147)
  be : Below w.heap.size w W
  n1 : w.heap.size < G
  n2 : G < FB
section
variable {L : List ByteArray} {w W W' : World} {G FB : Nat} {F F' : Frm}
theorem DvS.below (h : DvS L w G FB F W) (hb : Below W.heap.size W W') : DvS L w G FB F W' :=
  ⟨blk_later h.k hb, blk_later h.l hb, blk_later h.f hb, h.be.trans (hb.mono h.be.size), h.n1, h.n2⟩
theorem DvS.set (h : DvS L w G FB F W) (o : Nat) (v : Value) (he : F.cells.setIfInBounds o v = F'.cells) : DvS L w G FB F' (W.setCell ⟨FB, o, none⟩ v) :=
  ⟨(Below.heap_setCell _ _ _ _ (by have := h.n1; have := h.n2; simp; omega)).trans h.k, (Below.heap_setCell _ _ _ _ (by have := h.n2; simp; omega)).trans h.l, by rw [← he]; exact heap_set1 h.f o v, h.be.setCell (p := ⟨FB, o, none⟩) (by have := h.n1; have := h.n2; show w.heap.size ≤ FB; omega) v, h.n1, h.n2⟩
end
theorem divE_1 {s : ByteArray} (h : Lib.countB s lfS < 3) : divE s = 1 := by unfold divE; rw [if_pos h]
theorem divE_2 {s : ByteArray} (h : ¬ Lib.countB s lfS < 3) (h2 : ¬ (Lib.hasSuffix s.data.toList [10] = true ∧ FormF s)) : divE s = 2 := by unfold divE; rw [if_neg h, if_neg h2]
theorem divE_0 {s : ByteArray} (h : ¬ Lib.countB s lfS < 3) (h2 : Lib.hasSuffix s.data.toList [10] = true) (h3 : FormF s) : divE s = 0 := by unfold divE; rw [if_neg h, if_pos ⟨h2, h3⟩]
/-- What divide makes of a text. -/
def frmOf (s : ByteArray) (g c : Nat) : Frm := ⟨hdP s 1, hdP s 2, numV (hdP s 3), some ⟨g, 1, none⟩, nRc s, c, fun j => numV (trP s (j + 1)), ckD s, cov s⟩
def DivPost (s : ByteArray) (w : World) (e : Ending) (w' : World) : Prop :=
  Below w.heap.size w w' ∧ ((divE s ≠ 0 ∧ e = .returned (.tuple #[zfrm.val, .int .i64 (divE s)])) ∨
    (divE s = 0 ∧ ∃ g c, e = .returned (.tuple #[(frmOf s g c).val, .int .i64 0]) ∧ nRc s ≤ c ∧ IsRow w' (some ⟨g, 1, none⟩) ((recLs s).map Value.string)))
theorem prt_le {l : List ByteArray} {M : Nat} (h : ∀ x ∈ l, x.size ≤ M) (j : Nat) : (prt l j).size ≤ M := by
  unfold prt
  rcases Nat.lt_or_ge j l.length with c | c
  · rw [List.getD_eq_getElem?_getD, List.getElem?_eq_getElem c]; exact h _ (List.getElem_mem c)
  · rw [List.getD_eq_getElem?_getD, List.getElem?_eq_none c]; exact Nat.zero_le _
theorem lnAt_size (s : ByteArray) (k : Nat) : (lnAt s k).size ≤ s.size := by
  unfold lnAt
  refine prt_le (fun x hx => Nat.le_trans (lnS_size _ x hx) ?_) k
  unfold bodyOf
  rw [ByteArray.size_extract]; omega
def CpPost (s : ByteArray) (w : World) (e : Ending) (w' : World) : Prop := (Lib.hasPrefix s.data.toList [67, 124] = true ∧ e = .returned (.tuple #[.string (s.extract 2 s.size), .bool true]) ∧ w = w') ∨ (Lib.hasPrefix s.data.toList [67, 124] = false ∧ e = .returned (.tuple #[.string s, .bool false]) ∧ w = w')
theorem pref_size {s : ByteArray} (h : Lib.hasPrefix s.data.toList [67, 124] = true) : 2 ≤ s.size := by
  unfold Lib.hasPrefix at h
  obtain ⟨p, hp⟩ := List.isPrefixOf_iff_prefix.1 h
  rw [Lib.size_eq, ← hp]; simp
theorem icutp_any (s : ByteArray) (w : World) (hs : s.size ≤ maxLen) : Calls Tryz.prog 177 #[.string s, .string ⟨#[67, 124]⟩] w (CpPost s w) := by
  have HH := Lib.hid (Tryz.stringslite_HasPrefix s ⟨#[67, 124]⟩ w)
  have HP := Lib.hid (pref_size (s := s))
  rw [show (⟨#[67, 124]⟩ : ByteArray).data.toList = [67, 124] from rfl] at HH
  unfold CpPost
  unfold maxLen at hs
  generalize Lib.hasPrefix s.data.toList [67, 124] = B at *
  cases B with
  | false =>
    go_enter Tryz.func177, Tryz.ntmps177
    go_wp2_with fail
    refine HH.out.mono ?_
    rintro e w1 ⟨rfl, rfl⟩
    go_wp2_with fail
    go_ret2
    exact .inr ⟨by trivial, rfl, rfl⟩
  | true =>
    have h2 := HP.out rfl
    go_enter Tryz.func177, Tryz.ntmps177
    go_wp2_with fail
    refine HH.out.mono ?_
    rintro e w1 ⟨rfl, rfl⟩
    go_wp2_with fail
    go_ret2
    exact .inl ⟨by trivial, rfl, rfl⟩
theorem cutp_any (s : ByteArray) (w : World) (hs : s.size ≤ maxLen) : Calls Tryz.prog 148 #[.string s, .string ⟨#[67, 124]⟩] w (CpPost s w) := by
  have HH := Lib.hid (icutp_any s w hs)
  unfold CpPost at *
  clear hs
  go_enter Tryz.func148, Tryz.ntmps148
  go_wp2_with fail
  refine HH.out.mono ?_
  rintro e w1 (⟨h1, rfl, rfl⟩ | ⟨h1, rfl, rfl⟩)
  · have H1 := Lib.hid h1
    clear h1
    go_wp2_with fail
    go_ret2
    exact .inl ⟨H1.out, rfl, rfl⟩
  · have H1 := Lib.hid h1
    clear h1
    go_wp2_with fail
    go_ret2
    exact .inr ⟨H1.out, rfl, rfl⟩
theorem recLs_at {s : ByteArray} {j : Nat} {v : Value} (h : ((recLs s).map Value.string)[j]? = some v) : j < nRc s ∧ v = .string (rcL s j) := by
  unfold recLs at h
  rw [List.getElem?_map, List.getElem?_map] at h
  rcases Nat.lt_or_ge j (nRc s) with c | c
  · rw [List.getElem?_range c] at h
    exact ⟨c, by injection h with h; exact h.symm⟩
  · rw [List.getElem?_eq_none (by simpa using c)] at h; cases h
theorem setRow_other (W : World) {g k : Nat} (h : k ≠ g) (cs : Array Value) : (W.setRow g cs).heap[k]? = W.heap[k]? := by
  simp [World.setRow, Array.getElem?_modify, Ne.symm h]
theorem div_fail {s : ByteArray} {w W : World} (hE : divE s = 2) (hb : Below w.heap.size w W) : DivPost s w (.returned (.tuple #[zfrm.val, .int .i64 2])) (W.setRow w.heap.size zfrm.cells) :=
  ⟨below_setRow hb (Nat.le_refl _) _, .inl ⟨by rw [hE]; decide, by rw [hE]⟩⟩
theorem DvS.cellF {L : List ByteArray} {w W : World} {G FB : Nat} {F : Frm} (h : DvS L w G FB F W) (o : Nat) : W.cell? ⟨FB, o, none⟩ = F.cells[o]? ∧ W.frozen? ⟨FB, o, none⟩ = false := ⟨cell_c h.f o, cell_f h.f o⟩
def trF (tp : List ByteArray) (k : Nat) : Nat → Int := fun j => if j < k then numV (prt tp (j + 1)) else 0
theorem set_trF (f : Frm) (tp : List ByteArray) (k : Nat) (hk : k < 4) : (Frm.cells { f with t := trF tp k }).setIfInBounds (4 + k) (.int .i64 (numV (prt tp (k + 1)))) = Frm.cells { f with t := trF tp (k + 1) } := by
  match k, hk with
  | 0, _ => rfl
  | 1, _ => rfl
  | 2, _ => rfl
  | 3, _ => rfl
end Go.Proofs.YthflmdgfenojcaaGreatDoor
