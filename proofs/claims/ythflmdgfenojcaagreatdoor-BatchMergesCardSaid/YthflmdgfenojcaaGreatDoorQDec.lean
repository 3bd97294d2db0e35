/- Part of the proof over this seat. -/
import Derived.Deep.RegionHeld3
import Derived.Laws.Rows
import Derived.Laws.CopyOwn
import Derived.Outline
import Derived.Test.YthflmdgfenojcaaGreatDoorQCut
namespace Go.Proofs.YthflmdgfenojcaaGreatDoor
set_option linter.unusedVariables false
open Go.RowKit Go.Sort
def SplPost (s : ByteArray) (w : World) (e : Ending) (w' : World) : Prop := e = .returned (.slice (some ⟨w.heap.size, 0, none⟩) (cutS s).length (cutS s).length) ∧ w' = w.alloc (.cells ((cutS s).map Value.string).toArray 9)
theorem split_any (s : ByteArray) (w : World) (hw : KW w) (hs : s.size ≤ 1000000) : Calls Tryz.prog 67 #[.string s, .string ⟨#[124]⟩] w (SplPost s w) := by
  obtain ⟨-, -, -, -, m, hm⟩ := hw
  refine (Tryz.strings_Split s barS m w (by omega) hm (by decide)).mono ?_
  rintro e w' ⟨rfl, rfl⟩
  unfold SplPost
  rw [cutS_len]
  exact ⟨rfl, rfl⟩
theorem list12 (l : List ByteArray) (h : l.length = 12) : ∃ p0 p1 p2 p3 p4 p5 p6 p7 p8 p9 p10 p11, l = [p0, p1, p2, p3, p4, p5, p6, p7, p8, p9, p10, p11] := by
  match l, h with
  | [p0, p1, p2, p3, p4, p5, p6, p7, p8, p9, p10, p11], _ => exact ⟨p0, p1, p2, p3, p4, p5, p6, p7, p8, p9, p10, p11, rfl⟩
theorem info25 (r : Rec) : (Tryz.prog.info? 57).map (·.size) = some r.cells.size := by kernel_rfl
theorem rec_one (r : Rec) : r.cells.all (·.oneCell') = true := by unfold Rec.cells; simp [Value.oneCell']
theorem lit_ne (s : ByteArray) (l : List UInt8) (h : s ≠ ⟨l.toArray⟩) : (s.toList == l) = false ∧ ¬ s.toList = l := by
  have hn : ¬ s.toList = l := fun e => h (by rw [ByteArray.toList_eq] at e; exact ByteArray.ext (by rw [← e]))
  exact ⟨by simpa using hn, hn⟩
theorem ways1 {o0 o7 o9 o10 : Bool} {p : ByteArray} (h : true = (o0 && (o7 && (o9 && o10)) && endB p)) : o0 = true ∧ o7 = true ∧ o9 = true ∧ o10 = true ∧ (p = ⟨#[48]⟩ ∨ p = ⟨#[49]⟩) := by
  unfold endB at h
  by_cases h0 : p = zeroS
  · rw [h0] at h ⊢
    cases o0 <;> cases o7 <;> cases o9 <;> cases o10 <;> simp_all [zeroS]
  · by_cases h1 : p = oneS
    · rw [h1] at h ⊢
      cases o0 <;> cases o7 <;> cases o9 <;> cases o10 <;> simp_all [oneS]
    · rw [decide_eq_false h0, decide_eq_false h1] at h
      cases o0 <;> cases o7 <;> cases o9 <;> cases o10 <;> simp_all
theorem keepD {W w' : World} {A : Nat} {x1 x2 x3 x4 x5 x6 x8 x11 : Value} (h : Below W.heap.size W w') (a1 : W.cell? ⟨A, 1, none⟩ = some x1) (a2 : W.cell? ⟨A, 2, none⟩ = some x2) (a3 : W.cell? ⟨A, 3, none⟩ = some x3) (a4 : W.cell? ⟨A, 4, none⟩ = some x4) (a5 : W.cell? ⟨A, 5, none⟩ = some x5) (a6 : W.cell? ⟨A, 6, none⟩ = some x6) (a8 : W.cell? ⟨A, 8, none⟩ = some x8) (a11 : W.cell? ⟨A, 11, none⟩ = some x11) :
    Below W.heap.size W w' ∧ w'.cell? ⟨A, 1, none⟩ = some x1 ∧ w'.cell? ⟨A, 2, none⟩ = some x2 ∧ w'.cell? ⟨A, 3, none⟩ = some x3 ∧ w'.cell? ⟨A, 4, none⟩ = some x4 ∧ w'.cell? ⟨A, 5, none⟩ = some x5 ∧ w'.cell? ⟨A, 6, none⟩ = some x6 ∧ w'.cell? ⟨A, 8, none⟩ = some x8 ∧ w'.cell? ⟨A, 11, none⟩ = some x11 := by
  have hc : ∀ o v, W.cell? ⟨A, o, none⟩ = some v → w'.cell? ⟨A, o, none⟩ = some v := fun o v q => (h.cell (p := ⟨A, o, none⟩) (World.block_lt_of_cell? W _ q)).trans q
  exact ⟨h, hc _ _ a1, hc _ _ a2, hc _ _ a3, hc _ _ a4, hc _ _ a5, hc _ _ a6, hc _ _ a8, hc _ _ a11⟩
theorem ways5 {o0 o7 o9 o10 b : Bool} (h : false = (o0 && (o7 && (o9 && o10)) && b)) : o0 = false ∨ (o0 = true ∧ o7 = false) ∨ (o0 = true ∧ o7 = true ∧ o9 = false) ∨ (o0 = true ∧ o7 = true ∧ o9 = true ∧ o10 = false) ∨ (o0 = true ∧ o7 = true ∧ o9 = true ∧ o10 = true ∧ b = false) := by
  cases o0 <;> cases o7 <;> cases o9 <;> cases o10 <;> cases b <;> simp_all
set_option maxRecDepth 100000 in
set_option maxHeartbeats 6400000 in
theorem dec_any (s : ByteArray) (w : World) (hw : KW w) (hs : s.size ≤ 1000000) : Calls Tryz.prog 77 #[.string s] w (DecPost s w) := by
  have HKW := Lib.hid hw
  have HSP := Lib.hid (fun W hW => split_any s W hW hs)
  have HN := Lib.hid (fun p W hW hp => num_any p W hW hp)
  have HSZ := Lib.hid (fun j => Nat.le_trans (prt_size s j) hs)
  have HE : Hid (decE s = if formB (cutS s) = true then chkE (recL (cutS s)) else 2) := Lib.hid rfl
  have HV : Hid (decV s = if decE s = 0 then recL (cutS s) else zrec) := Lib.hid rfl
  unfold DecPost
  unfold SplPost at HSP
  unfold NumPost at HN
  clear hw hs
  generalize decV s = DV at *
  generalize decE s = DE at *
  generalize cutS s = l at *
  have HZ := Lib.hid (heap_alloc_new w (.cells zrec.cells 57))
  by_cases hl : l.length = 12
  · obtain ⟨p0, p1, p2, p3, p4, p5, p6, p7, p8, p9, p10, p11, rfl⟩ := list12 l hl
    have HF : Hid (formB [p0, p1, p2, p3, p4, p5, p6, p7, p8, p9, p10, p11] = (numOK p0 && (numOK p7 && (numOK p9 && numOK p10)) && endB p11)) := Lib.hid rfl
    have HR : Hid (recL [p0, p1, p2, p3, p4, p5, p6, p7, p8, p9, p10, p11] = ⟨numV p0, p1, p2, p3, p4, p5, p6, numV p7, p8, numV p9, numV p10, decide (p11 = oneS)⟩) := Lib.hid rfl
    have N0 := Lib.hid (fun W hW => HN.out p0 W hW (HSZ.out 0))
    have N7 := Lib.hid (fun W hW => HN.out p7 W hW (HSZ.out 7))
    have N9 := Lib.hid (fun W hW => HN.out p9 W hW (HSZ.out 9))
    have N10 := Lib.hid (fun W hW => HN.out p10 W hW (HSZ.out 10))
    have HFIT : Hid (∀ r : Rec, r = recL [p0, p1, p2, p3, p4, p5, p6, p7, p8, p9, p10, p11] → r.Fit) := Lib.hid (fun r hr => by
      subst hr
      have h : ∀ j, (prt [p0, p1, p2, p3, p4, p5, p6, p7, p8, p9, p10, p11] j).size ≤ maxLen := fun j => by have := HSZ.out j; have : maxLen = 2 ^ 63 - 1 := rfl; omega
      exact ⟨h 1, h 2, h 3, h 4, h 5, h 6, h 8⟩)
    generalize formB [p0, p1, p2, p3, p4, p5, p6, p7, p8, p9, p10, p11] = FB at *
    generalize recL [p0, p1, p2, p3, p4, p5, p6, p7, p8, p9, p10, p11] = RL at *
    clear hl HN HSZ
    have HWF : Hid (∀ W A : World, A.heap.size = A.heap.size) := Lib.hid (fun _ _ => rfl)
    clear HWF
    generalize numV p0 = v0 at *
    generalize numV p7 = v7 at *
    generalize numV p9 = v9 at *
    generalize numV p10 = v10 at *
    generalize numOK p0 = o0 at *
    generalize numOK p7 = o7 at *
    generalize numOK p9 = o9 at *
    generalize numOK p10 = o10 at *
    go_enter Tryz.func77, Tryz.ntmps77
    go_wp2_with fail
    refine (HSP.out _ (HKW.out.below (bx _ _))).mono ?_
    rintro e w1 ⟨rfl, hw1⟩
    have HB := Lib.hid (show Below w.heap.size w w1 by rw [hw1]; exact (bx w _).trans ((bx _ _).mono (by simp)))
    have HK := Lib.hid (show w1.heap[w.heap.size]? = some (.cells zrec.cells 57) by rw [hw1]; exact blk_later HZ.out (bx _ _))
    have hka : w1.heap[w.heap.size + 1]? = some (.cells #[.string p0, .string p1, .string p2, .string p3, .string p4, .string p5, .string p6, .string p7, .string p8, .string p9, .string p10, .string p11] 9) := by
      rw [hw1]; exact heap_alloc2_new w _ _
    have KA := Lib.hid hka
    clear hw1 HSP HZ
    have a0 := cell_c hka 0
    clear hka
    go_wp2_with fail
    refine (N0.out _ (HKW.out.below HB.out)).mono ?_
    rintro e w2 ⟨rfl, hb⟩
    have HB := Lib.hid (HB.out.trans (hb.mono HB.out.size))
    have HK := Lib.hid (blk_later HK.out hb)
    have KA := Lib.hid (blk_later KA.out hb)
    clear hb a0
    have a7 := cell_c KA.out 7
    go_wp2_with fail
    refine (N7.out _ (HKW.out.below HB.out)).mono ?_
    rintro e w3 ⟨rfl, hb⟩
    have HB := Lib.hid (HB.out.trans (hb.mono HB.out.size))
    have HK := Lib.hid (blk_later HK.out hb)
    have KA := Lib.hid (blk_later KA.out hb)
    clear hb a7
    have a9 := cell_c KA.out 9
    go_wp2_with fail
    refine (N9.out _ (HKW.out.below HB.out)).mono ?_
    rintro e w4 ⟨rfl, hb⟩
    have HB := Lib.hid (HB.out.trans (hb.mono HB.out.size))
    have HK := Lib.hid (blk_later HK.out hb)
    have KA := Lib.hid (blk_later KA.out hb)
    clear hb a9
    have a10 := cell_c KA.out 10
    go_wp2_with fail
    refine (N10.out _ (HKW.out.below HB.out)).mono ?_
    rintro e w5 ⟨rfl, hb⟩
    have HB := Lib.hid (HB.out.trans (hb.mono HB.out.size))
    have HK := Lib.hid (blk_later HK.out hb)
    have KA := Lib.hid (blk_later KA.out hb)
    clear hb a10
    have a11 := cell_c KA.out 11
    by_cases hq : FB = true
    · have hff := HF.out
      rw [hq] at hff
      obtain ⟨rfl, rfl, rfl, rfl, h11⟩ := ways1 hff
      have he := HE.out
      rw [if_pos hq] at he
      clear hq hff HF HE N0 N7 N9 N10
      rcases h11 with rfl | rfl
      · have hr : RL = (⟨v0, p1, p2, p3, p4, p5, p6, v7, p8, v9, v10, false⟩ : Rec) := HR.out.trans (by rw [show decide ((⟨#[48]⟩ : ByteArray) = oneS) = false by decide])
        have HCH := Lib.hid (fun W => chk_any RL (HFIT.out RL rfl) W)
        have HV2 := Lib.hid (HV.out)
        have HDE := Lib.hid he
        have HRL := Lib.hid hr
        unfold PtPost at HCH
        rw [hr] at HCH
        unfold Rec.val Rec.cells at HCH
        dsimp only at HCH
        clear hr he HR HFIT HV
        go_wp2_with fail
        have a1 := cell_c KA.out 1
        have a2 := cell_c KA.out 2
        have a3 := cell_c KA.out 3
        have a4 := cell_c KA.out 4
        have a5 := cell_c KA.out 5
        have a6 := cell_c KA.out 6
        have a8 := cell_c KA.out 8
        have HBW : Hid (Below w5.heap.size w5 w5.drew) := Lib.hid ((Below.refl _ _).drew)
        go_region_held3 (fun w' => Below w5.heap.size w5 w' ∧ w'.cell? ⟨w.heap.size + 1, 1, none⟩ = some (.string p1) ∧ w'.cell? ⟨w.heap.size + 1, 2, none⟩ = some (.string p2) ∧ w'.cell? ⟨w.heap.size + 1, 3, none⟩ = some (.string p3) ∧ w'.cell? ⟨w.heap.size + 1, 4, none⟩ = some (.string p4) ∧ w'.cell? ⟨w.heap.size + 1, 5, none⟩ = some (.string p5) ∧ w'.cell? ⟨w.heap.size + 1, 6, none⟩ = some (.string p6) ∧ w'.cell? ⟨w.heap.size + 1, 8, none⟩ = some (.string p8) ∧ w'.cell? ⟨w.heap.size + 1, 11, none⟩ = some (.string ⟨#[48]⟩))
          (first | exact keepD HBW.out a1 a2 a3 a4 a5 a6 a8 a11 | exact keepD (Below.drew (bx w5 _)) a1 a2 a3 a4 a5 a6 a8 a11)
          (fail)
        have HB6 := Lib.hid (HB.out.trans ((Below.drew (bx w5 (.cells #[.int .i64 v0, .string p1, .string p2, .string p3, .string p4, .string p5, .string p6, .int .i64 v7, .string p8, .int .i64 v9, .int .i64 v10, .bool false] 57))).mono HB.out.size))
        have HK6 := Lib.hid (blk_later HK.out (Below.drew (bx w5 (.cells #[.int .i64 v0, .string p1, .string p2, .string p3, .string p4, .string p5, .string p6, .int .i64 v7, .string p8, .int .i64 v9, .int .i64 v10, .bool false] 57))))
        have HX6 : Hid (((w5.alloc (.cells #[.int .i64 v0, .string p1, .string p2, .string p3, .string p4, .string p5, .string p6, .int .i64 v7, .string p8, .int .i64 v9, .int .i64 v10, .bool false] 57)).drew).heap[w5.heap.size]? = some (.cells #[.int .i64 v0, .string p1, .string p2, .string p3, .string p4, .string p5, .string p6, .int .i64 v7, .string p8, .int .i64 v9, .int .i64 v10, .bool false] 57)) := Lib.hid (heap_alloc_new w5 _)
        clear a1 a2 a3 a4 a5 a6 a8 a11 HBW
        generalize ((w5.alloc (.cells #[.int .i64 v0, .string p1, .string p2, .string p3, .string p4, .string p5, .string p6, .int .i64 v7, .string p8, .int .i64 v9, .int .i64 v10, .bool false] 57)).drew) = W6 at *
        generalize w5.heap.size = X at *
        go_wp2_with (refine wpList_load_row rfl 57 _ rfl X rfl 57 _ _ _ HX6.out Tryz.underlying57 rfl (info25 (⟨v0, p1, p2, p3, p4, p5, p6, v7, p8, v9, v10, false⟩ : Rec)) ?_)
        refine (HCH.out _).mono ?_
        rintro e w7 ⟨rfl, hb⟩
        have HB7 := Lib.hid (HB6.out.trans (hb.mono HB6.out.size))
        have HK7 := Lib.hid (blk_later HK6.out hb)
        have HX7 := Lib.hid (blk_later HX6.out hb)
        clear hb
        obtain ⟨CE, hCE⟩ : ∃ CE, chkE (⟨v0, p1, p2, p3, p4, p5, p6, v7, p8, v9, v10, false⟩ : Rec) = CE := ⟨_, rfl⟩
        rw [hCE]
        have HCE := Lib.hid (show DE = CE by rw [HDE.out, HRL.out, hCE])
        clear hCE
        cases hz : (CE != 0)
        · have h0 : CE = 0 := by simpa using hz
          subst h0
          have HDV := Lib.hid (show DV = (⟨v0, p1, p2, p3, p4, p5, p6, v7, p8, v9, v10, false⟩ : Rec) by rw [HV2.out, HCE.out, if_pos rfl, HRL.out])
          clear hz
          go_wp2_with (first | (refine wpList_load_row rfl 57 _ rfl X rfl 57 _ _ _ HX7.out Tryz.underlying57 rfl (info25 (⟨v0, p1, p2, p3, p4, p5, p6, v7, p8, v9, v10, false⟩ : Rec)) ?_) | (refine wpList_store_row rfl 57 _ _ rfl w.heap.size (Rec.cells (⟨v0, p1, p2, p3, p4, p5, p6, v7, p8, v9, v10, false⟩ : Rec)) rfl rfl 57 _ HK7.out (info25 _) rfl (rec_one _) ?_))
          refine bodyPost_ret (v := .tuple #[Rec.val (⟨v0, p1, p2, p3, p4, p5, p6, v7, p8, v9, v10, false⟩ : Rec), .int .i64 0]) ?_ rfl ⟨by rw [HDV.out, HCE.out], below_setRow HB7.out (Nat.le_refl _) _⟩
          exact results_row_tmp (show Tryz.f77.results = #[.cell 2 57, .tmp 3] by kernel_rfl) _ _ w.heap.size 57 (Rec.cells (⟨v0, p1, p2, p3, p4, p5, p6, v7, p8, v9, v10, false⟩ : Rec)) (0, 0) _ _ rfl rfl (setRow_heap _ _ _ _ _ _ HK7.out) Tryz.underlying57 rfl (info25 (⟨v0, p1, p2, p3, p4, p5, p6, v7, p8, v9, v10, false⟩ : Rec))
        · have HDV := Lib.hid (show DV = zrec by rw [HV2.out, HCE.out, if_neg (by simpa using hz)])
          go_wp2_with (refine wpList_store_row rfl 57 _ _ rfl w.heap.size zrec.cells rfl rfl 57 _ HK7.out (info25 _) rfl (rec_one _) ?_)
          refine bodyPost_ret (v := .tuple #[zrec.val, .int .i64 CE]) ?_ rfl ⟨by rw [HDV.out, HCE.out], below_setRow HB7.out (Nat.le_refl _) _⟩
          exact results_row_tmp (show Tryz.f77.results = #[.cell 2 57, .tmp 3] by kernel_rfl) _ _ w.heap.size 57 zrec.cells (0, 0) _ _ rfl rfl (setRow_heap _ _ _ _ _ _ HK7.out) Tryz.underlying57 rfl (info25 _)
      · have hr : RL = (⟨v0, p1, p2, p3, p4, p5, p6, v7, p8, v9, v10, true⟩ : Rec) := HR.out.trans (by rw [show decide ((⟨#[49]⟩ : ByteArray) = oneS) = true by decide])
        have HCH := Lib.hid (fun W => chk_any RL (HFIT.out RL rfl) W)
        have HV2 := Lib.hid (HV.out)
        have HDE := Lib.hid he
        have HRL := Lib.hid hr
        unfold PtPost at HCH
        rw [hr] at HCH
        unfold Rec.val Rec.cells at HCH
        dsimp only at HCH
        clear hr he HR HFIT HV
        go_wp2_with fail
        have a1 := cell_c KA.out 1
        have a2 := cell_c KA.out 2
        have a3 := cell_c KA.out 3
        have a4 := cell_c KA.out 4
        have a5 := cell_c KA.out 5
        have a6 := cell_c KA.out 6
        have a8 := cell_c KA.out 8
        have HBW : Hid (Below w5.heap.size w5 w5.drew) := Lib.hid ((Below.refl _ _).drew)
        go_region_held3 (fun w' => Below w5.heap.size w5 w' ∧ w'.cell? ⟨w.heap.size + 1, 1, none⟩ = some (.string p1) ∧ w'.cell? ⟨w.heap.size + 1, 2, none⟩ = some (.string p2) ∧ w'.cell? ⟨w.heap.size + 1, 3, none⟩ = some (.string p3) ∧ w'.cell? ⟨w.heap.size + 1, 4, none⟩ = some (.string p4) ∧ w'.cell? ⟨w.heap.size + 1, 5, none⟩ = some (.string p5) ∧ w'.cell? ⟨w.heap.size + 1, 6, none⟩ = some (.string p6) ∧ w'.cell? ⟨w.heap.size + 1, 8, none⟩ = some (.string p8) ∧ w'.cell? ⟨w.heap.size + 1, 11, none⟩ = some (.string ⟨#[49]⟩))
          (first | exact keepD HBW.out a1 a2 a3 a4 a5 a6 a8 a11 | exact keepD (Below.drew (bx w5 _)) a1 a2 a3 a4 a5 a6 a8 a11)
          (fail)
        have HB6 := Lib.hid (HB.out.trans ((Below.drew (bx w5 (.cells #[.int .i64 v0, .string p1, .string p2, .string p3, .string p4, .string p5, .string p6, .int .i64 v7, .string p8, .int .i64 v9, .int .i64 v10, .bool true] 57))).mono HB.out.size))
        have HK6 := Lib.hid (blk_later HK.out (Below.drew (bx w5 (.cells #[.int .i64 v0, .string p1, .string p2, .string p3, .string p4, .string p5, .string p6, .int .i64 v7, .string p8, .int .i64 v9, .int .i64 v10, .bool true] 57))))
        have HX6 : Hid (((w5.alloc (.cells #[.int .i64 v0, .string p1, .string p2, .string p3, .string p4, .string p5, .string p6, .int .i64 v7, .string p8, .int .i64 v9, .int .i64 v10, .bool true] 57)).drew).heap[w5.heap.size]? = some (.cells #[.int .i64 v0, .string p1, .string p2, .string p3, .string p4, .string p5, .string p6, .int .i64 v7, .string p8, .int .i64 v9, .int .i64 v10, .bool true] 57)) := Lib.hid (heap_alloc_new w5 _)
        clear a1 a2 a3 a4 a5 a6 a8 a11 HBW
        generalize ((w5.alloc (.cells #[.int .i64 v0, .string p1, .string p2, .string p3, .string p4, .string p5, .string p6, .int .i64 v7, .string p8, .int .i64 v9, .int .i64 v10, .bool true] 57)).drew) = W6 at *
        generalize w5.heap.size = X at *
        go_wp2_with (refine wpList_load_row rfl 57 _ rfl X rfl 57 _ _ _ HX6.out Tryz.underlying57 rfl (info25 (⟨v0, p1, p2, p3, p4, p5, p6, v7, p8, v9, v10, true⟩ : Rec)) ?_)
        refine (HCH.out _).mono ?_
        rintro e w7 ⟨rfl, hb⟩
        have HB7 := Lib.hid (HB6.out.trans (hb.mono HB6.out.size))
        have HK7 := Lib.hid (blk_later HK6.out hb)
        have HX7 := Lib.hid (blk_later HX6.out hb)
        clear hb
        obtain ⟨CE, hCE⟩ : ∃ CE, chkE (⟨v0, p1, p2, p3, p4, p5, p6, v7, p8, v9, v10, true⟩ : Rec) = CE := ⟨_, rfl⟩
        rw [hCE]
        have HCE := Lib.hid (show DE = CE by rw [HDE.out, HRL.out, hCE])
        clear hCE
        cases hz : (CE != 0)
        · have h0 : CE = 0 := by simpa using hz
          subst h0
          have HDV := Lib.hid (show DV = (⟨v0, p1, p2, p3, p4, p5, p6, v7, p8, v9, v10, true⟩ : Rec) by rw [HV2.out, HCE.out, if_pos rfl, HRL.out])
          clear hz
          go_wp2_with (first | (refine wpList_load_row rfl 57 _ rfl X rfl 57 _ _ _ HX7.out Tryz.underlying57 rfl (info25 (⟨v0, p1, p2, p3, p4, p5, p6, v7, p8, v9, v10, true⟩ : Rec)) ?_) | (refine wpList_store_row rfl 57 _ _ rfl w.heap.size (Rec.cells (⟨v0, p1, p2, p3, p4, p5, p6, v7, p8, v9, v10, true⟩ : Rec)) rfl rfl 57 _ HK7.out (info25 _) rfl (rec_one _) ?_))
          refine bodyPost_ret (v := .tuple #[Rec.val (⟨v0, p1, p2, p3, p4, p5, p6, v7, p8, v9, v10, true⟩ : Rec), .int .i64 0]) ?_ rfl ⟨by rw [HDV.out, HCE.out], below_setRow HB7.out (Nat.le_refl _) _⟩
          exact results_row_tmp (show Tryz.f77.results = #[.cell 2 57, .tmp 3] by kernel_rfl) _ _ w.heap.size 57 (Rec.cells (⟨v0, p1, p2, p3, p4, p5, p6, v7, p8, v9, v10, true⟩ : Rec)) (0, 0) _ _ rfl rfl (setRow_heap _ _ _ _ _ _ HK7.out) Tryz.underlying57 rfl (info25 (⟨v0, p1, p2, p3, p4, p5, p6, v7, p8, v9, v10, true⟩ : Rec))
        · have HDV := Lib.hid (show DV = zrec by rw [HV2.out, HCE.out, if_neg (by simpa using hz)])
          go_wp2_with (refine wpList_store_row rfl 57 _ _ rfl w.heap.size zrec.cells rfl rfl 57 _ HK7.out (info25 _) rfl (rec_one _) ?_)
          refine bodyPost_ret (v := .tuple #[zrec.val, .int .i64 CE]) ?_ rfl ⟨by rw [HDV.out, HCE.out], below_setRow HB7.out (Nat.le_refl _) _⟩
          exact results_row_tmp (show Tryz.f77.results = #[.cell 2 57, .tmp 3] by kernel_rfl) _ _ w.heap.size 57 zrec.cells (0, 0) _ _ rfl rfl (setRow_heap _ _ _ _ _ _ HK7.out) Tryz.underlying57 rfl (info25 _)
    · have he := HE.out
      rw [if_neg hq] at he
      have hv := HV.out
      rw [he, if_neg (by decide)] at hv
      subst he
      subst hv
      have hff := HF.out
      rw [show FB = false by simpa using hq] at hff
      have hways : o0 = false ∨ (o0 = true ∧ o7 = false) ∨ (o0 = true ∧ o7 = true ∧ o9 = false) ∨ (o0 = true ∧ o7 = true ∧ o9 = true ∧ o10 = false) ∨ (o0 = true ∧ o7 = true ∧ o9 = true ∧ o10 = true ∧ endB p11 = false) := by
        exact ways5 hff
      clear hq hff HF HE HV
      rcases hways with rfl | ⟨rfl, rfl⟩ | ⟨rfl, rfl, rfl⟩ | ⟨rfl, rfl, rfl, rfl⟩ | ⟨rfl, rfl, rfl, rfl, h11⟩
      iterate 4
        · go_wp2_with (refine wpList_store_row rfl 57 _ _ rfl w.heap.size zrec.cells rfl rfl 57 _ HK.out (info25 _) rfl (rec_one _) ?_)
          refine bodyPost_ret (v := .tuple #[zrec.val, .int .i64 2]) ?_ rfl ⟨rfl, below_setRow HB.out (Nat.le_refl _) _⟩
          exact results_row_tmp (show Tryz.f77.results = #[.cell 2 57, .tmp 3] by kernel_rfl) _ _ w.heap.size 57 zrec.cells (0, 0) _ _ rfl rfl (setRow_heap _ _ _ _ _ _ HK.out) Tryz.underlying57 rfl (info25 _)
      · obtain ⟨q0, n0⟩ := lit_ne p11 [48] (fun e => by unfold endB at h11; rw [show p11 = zeroS from e] at h11; simp at h11)
        obtain ⟨q1, n1⟩ := lit_ne p11 [49] (fun e => by unfold endB at h11; rw [show p11 = oneS from e] at h11; simp at h11)
        clear h11
        go_wp2_with (refine wpList_store_row rfl 57 _ _ rfl w.heap.size zrec.cells rfl rfl 57 _ HK.out (info25 _) rfl (rec_one _) ?_)
        refine bodyPost_ret (v := .tuple #[zrec.val, .int .i64 2]) ?_ rfl ⟨rfl, below_setRow HB.out (Nat.le_refl _) _⟩
        exact results_row_tmp (show Tryz.f77.results = #[.cell 2 57, .tmp 3] by kernel_rfl) _ _ w.heap.size 57 zrec.cells (0, 0) _ _ rfl rfl (setRow_heap _ _ _ _ _ _ HK.out) Tryz.underlying57 rfl (info25 _)
  · have hn : ((l.length : Int) != 12) = true := by simp; omega
    have he := HE.out
    rw [show formB l = false by unfold formB; rw [decide_eq_false hl]; rfl, if_neg (by simp)] at he
    have hv := HV.out
    rw [he, if_neg (by decide)] at hv
    subst he
    subst hv
    clear hl HE HV
    go_enter Tryz.func77, Tryz.ntmps77
    go_wp2_with fail
    refine (HSP.out _ (HKW.out.below (bx _ _))).mono ?_
    rintro e w1 ⟨rfl, hw1⟩
    have HB := Lib.hid (show Below w.heap.size w w1 by rw [hw1]; exact (bx w _).trans ((bx _ _).mono (by simp)))
    have HK := Lib.hid (show w1.heap[w.heap.size]? = some (.cells zrec.cells 57) by rw [hw1]; exact blk_later HZ.out (bx _ _))
    clear hw1
    go_wp2_with (refine wpList_store_row rfl 57 _ _ rfl w.heap.size zrec.cells rfl rfl 57 _ HK.out (info25 _) rfl (rec_one _) ?_)
    refine bodyPost_ret (v := .tuple #[zrec.val, .int .i64 2]) ?_ rfl ⟨rfl, below_setRow HB.out (Nat.le_refl _) _⟩
    exact results_row_tmp (show Tryz.f77.results = #[.cell 2 57, .tmp 3] by kernel_rfl) _ _ w.heap.size 57 zrec.cells (0, 0) _ _ rfl rfl (setRow_heap _ _ _ _ _ _ HK.out) Tryz.underlying57 rfl (info25 _)
end Go.Proofs.YthflmdgfenojcaaGreatDoor
