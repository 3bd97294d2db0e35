/- Part of the proof over this seat. -/
import Derived.Test.YthflmdgfenojcaaGreatDoorQRda
import Derived.Test.YthflmdgfenojcaaGreatDoorQDcw
import Derived.Test.YthflmdgfenojcaaGreatDoorQLCd
namespace Go.Proofs.YthflmdgfenojcaaGreatDoor
set_option linter.unusedVariables false
open Go.RowKit Go.Sort
theorem clmT_fit {x : ByteArray} (h : x.size ≤ 1000000) : (clmT x).Fit := by
  have hm : 1000000 ≤ maxLen := by decide
  unfold clmT
  split
  · have h6 := prt_size x 6
    exact ⟨Nat.zero_le _, Nat.zero_le _, Nat.zero_le _, Nat.zero_le _, Nat.zero_le _, (show (prt (cutS x) 6).size ≤ maxLen by omega), Nat.zero_le _⟩
  · exact ⟨Nat.zero_le _, Nat.zero_le _, Nat.zero_le _, Nat.zero_le _, Nat.zero_le _, Nat.zero_le _, Nat.zero_le _⟩
structure LnR (ts : List ByteArray) (k : Nat) (w : World) (v : Value) (W : World) : Prop where
  z : W.heap[w.heap.size]? = some (.cells #[.int .i64 0, .int .i64 0, .int .i64 0, .int .i64 0] 48)
  o : W.ownsRow (w.heap.size + 1) 57 12 v k (((ts.take k).map clmT).flatMap recF)
  be : Below w.heap.size w W
theorem LnR.below {ts : List ByteArray} {k : Nat} {w W W' : World} {v : Value} (h : LnR ts k w v W) (hb : Below W.heap.size W W') : LnR ts k w v W' :=
  ⟨blk_later h.z hb, own_later h.o hb, h.be.trans (hb.mono h.be.size)⟩
theorem LnR.next {ts : List ByteArray} {k : Nat} {w W W' : World} {v u : Value} (h : LnR ts k w v W) (hk : k < ts.length) {r : Rec} (hr : clmT (prt ts k) = r) (ho : W'.ownsRow (w.heap.size + 1) 57 12 u (k + 1) (((ts.take k).map clmT).flatMap recF ++ recF r)) (hg : W.grownBy W' v.ownBlock) : LnR ts (k + 1) w u W' :=
  ⟨grown_lt (B := 0) hg h.z (own_far h.o (by omega)), by
    rw [List.take_succ_eq_append_getElem hk, List.map_append, List.flatMap_append, List.map_singleton, List.flatMap_singleton, ← prt_get hk, hr]; exact ho, h.be.grown hg h.be.size (fun j hj => by have := (h.o.lt j hj).1; omega)⟩
theorem LnR.setRow {ts : List ByteArray} {k : Nat} {w W : World} {v : Value} (h : LnR ts k w v W) {g : Nat} (hg : w.heap.size < g) (hv : v.ownBlock = none ∨ v.ownBlock ≠ some g) (cs : Array Value) : LnR ts k w v (W.setRow g cs) :=
  ⟨(setRow_other W (by omega) cs).trans h.z, h.o.kept (setRow_grown W g cs) hv, below_setRow h.be (by omega) cs⟩
theorem size_setRow (W : World) (g : Nat) (cs : Array Value) : (W.setRow g cs).heap.size = W.heap.size := by simp [World.setRow]
theorem new_setRow (W : World) (g : Nat) (cs : Array Value) (o : Obj) : ((W.setRow g cs).alloc o).heap[W.heap.size]? = some o := by
  have := heap_alloc_new (W.setRow g cs) o
  rwa [size_setRow] at this
set_option maxRecDepth 1000000 in
set_option maxHeartbeats 12800000 in
theorem rlines_any (A : Option Addr) (cp : Nat) (ts : List ByteArray) (w : World) (hw : KW w) (hr : IsRow w A (ts.map Value.string)) (hsz : ∀ x ∈ ts, x.size ≤ 1000000) (hm : ts.length ≤ 1000000) : Calls Tryz.prog 72 #[.slice A ts.length cp] w (RSumPost (ts.map clmT) w) := by
  obtain ⟨i57, HI⟩ := info_parts mkrec
  have HI := Lib.hid HI
  have HKW := Lib.hid hw
  have HR := Lib.hid hr
  have HSZ := Lib.hid hsz
  have HS0 : Hid (LnR ts 0 w (.slice none 0 0) (w.alloc (.cells #[.int .i64 0, .int .i64 0, .int .i64 0, .int .i64 0] 48))) := Lib.hid ⟨heap_alloc_new _ _, World.ownsRow_nil _ _ _ _, bx _ _⟩
  clear hw hr hsz
  go_enter Tryz.func72, Tryz.ntmps72
  go_wp2_with fail
  go_loopw [3, 4] (fun v iv wr => ∃ k : Nat, k ≤ ts.length ∧ iv = .int .i64 k ∧ Hid (LnR ts k w v wr)) (fun _ iv _ => ts.length - (intOf iv).toNat)
  case atStart => exact ⟨0, Nat.zero_le _, rfl, HS0⟩
  case round =>
    clear HS0
    obtain ⟨k, hk, rfl, HW⟩ := hrel
    by_cases hlt : k < ts.length
    · obtain ⟨b, off, rfl, hcell⟩ := row_str HR.out k hlt
      have kI : (k : Int) < (ts.length : Int) := by omega
      have k0 : (0 : Int) ≤ (k : Int) := by omega
      have hps : (prt ts k).size ≤ 1000000 := HSZ.out _ (by rw [prt_get hlt]; exact List.getElem_mem hlt)
      have HS1 := Lib.hid (HW.out.below (bx wr (.cells zrec.cells 57)))
      have HX1 := Lib.hid (heap_alloc_new wr (.cells zrec.cells 57))
      have c0 := cell_later HW.out.be (hcell k hlt)
      have hbb : b < wr.heap.size := World.block_lt_of_cell? wr _ c0
      have c1 := cell_later HS1.out.be (hcell k hlt)
      unfold zrec Rec.cells at c1
      dsimp only at c1
      have HSP := Lib.hid (split_any (prt ts k) (wr.alloc (.cells zrec.cells 57)) (HKW.out.below HS1.out.be) hps)
      unfold SplPost at HSP
      have HN1 := Lib.hid (fun j W => rnum_any (prt (cutS (prt ts k)) j) W (Nat.le_trans (prt_size _ j) hps))
      unfold RNum at HN1
      have hE12 := clmT_no (x := prt ts k)
      have hE0 := clmT_no0 (x := prt ts k)
      have hE7 := clmT_no7 (x := prt ts k)
      have hEy := clmT_yes (x := prt ts k)
      have hbl : wr.heap.size < (wr.alloc (.cells zrec.cells 57)).heap.size := by rw [World.size_alloc]; omega
      have hob : ∀ j, u3.ownBlock = some j → j ≠ wr.heap.size := fun j hj e => by have := (HW.out.o.lt j hj).2; omega
      have HOB := Lib.hid hob
      have hwz : w.heap.size < wr.heap.size := (Array.getElem?_eq_some_iff.1 HW.out.z).1
      clear hcell hob
      by_cases hl : (cutS (prt ts k)).length = 12
      · have hlb : (((cutS (prt ts k)).length : Int) == 12) = true := by simp; omega
        cases h0 : numOK (prt (cutS (prt ts k)) 0) with
        | false =>
          have HE := Lib.hid (hE0 h0)
          clear hE12 hE0 hE7 hEy hlb
          rw [hl] at HSP
          generalize hp : prt ts k = p at *
          generalize hlp : cutS p = l at *
          have HP := Lib.hid hp
          clear hp hlp
          go_wp2_with fail
          refine HSP.out.mono ?_
          rintro e w3 ⟨rfl, hw3⟩
          have hb3 : Below (wr.alloc (.cells zrec.cells 57)).heap.size (wr.alloc (.cells zrec.cells 57)) w3 := by rw [hw3]; exact bx _ _
          have HS3 := Lib.hid (HS1.out.below hb3)
          have HX0 := Lib.hid (blk_later HX1.out hb3)
          have HL : Hid (w3.heap[(wr.alloc (.cells zrec.cells 57)).heap.size]? = some (.cells (l.map Value.string).toArray 9)) := Lib.hid (by rw [hw3]; exact heap_alloc_new _ _)
          rw [World.size_alloc] at HL ⊢
          clear hw3 c0 c1 hb3 HSP HS1 HX1
          generalize hblk : wr.heap.size = blk at *
          have HBK := Lib.hid hblk
          clear hblk
          have HB0 := Lib.hid h0
          clear h0
          have a0 := str_cell HL.out 0 (by omega)
          go_wp2_with fail
          refine (HN1.out 0 _).mono ?_
          rintro e w4 ⟨⟨q0, rfl, hq0⟩, rfl⟩
          have HQ0 := Lib.hid hq0
          clear a0 hq0
          have a7 := str_cell HL.out 7 (by omega)
          go_wp2_with fail
          refine (HN1.out 7 _).mono ?_
          rintro e w4 ⟨⟨q7, rfl, hq7⟩, rfl⟩
          have HQ7 := Lib.hid hq7
          clear a7 hq7
          rw [HB0.out]
          generalize numOK (prt l 7) = o7 at *
          have HX : Hid (w3.heap[blk]? = some (.cells (clmT p).cells 57)) := Lib.hid (by rw [HE.out]; exact HX0.out)
          obtain ⟨R, hR⟩ : ∃ R, clmT p = R := ⟨_, rfl⟩
          rw [hR] at HX
          have HT := Lib.hid hR
          clear hR
          obtain ⟨K, rid, au, aq, is, me, ca, a, cu, d, cg, f⟩ := R
          unfold Rec.cells at HX
          dsimp only at HX HT
          have h3z : blk < w3.heap.size := (Array.getElem?_eq_some_iff.1 HX.out).1
          have HS4 := Lib.hid (HS3.out.below (bx w3 (.cells #[.int .i64 K, .string rid, .string au, .string aq, .string is, .string me, .string ca, .int .i64 a, .string cu, .int .i64 d, .int .i64 cg, .bool f] 57)))
          go_wp2_with (first | (refine wpList_load_row rfl 57 _ rfl blk rfl 57 _ _ _ HX.out Tryz.underlying57 rfl (info25 (⟨K, rid, au, aq, is, me, ca, a, cu, d, cg, f⟩ : Rec)) ?_) | (at_builtin; refine wpList_append_own _ rfl (.tmp 50) (.tmp 52) _ rfl (w.heap.size + 1) 57 i57 _ 12 152 Tryz.underlying34 HI.out.1 HI.out.2.1 HI.out.2.2.1 HI.out.2.2.2 rfl (by omega) _ _ _ rfl HS4.out.o ⟨w3.heap.size, 0, none⟩ 1 1 [.int .i64 K, .string rid, .string au, .string aq, .string is, .string me, .string ca, .int .i64 a, .string cu, .int .i64 d, .int .i64 cg, .bool f] rfl rfl (World.news_of_block (cs := #[.int .i64 K, .string rid, .string au, .string aq, .string is, .string me, .string ca, .int .i64 a, .string cu, .int .i64 d, .int .i64 cg, .bool f]) (t := 57) (fr := (0, 0)) (heap_alloc_new w3 _)) (by simp [Value.oneCell']) (by unfold maxLen; omega) (by omega) (by simp; omega) ?_; intro v9 w8 hown hgrow hnil; have HA := Lib.hid hown; have HG := Lib.hid hgrow; clear hown hgrow hnil))
          have HW2 : Hid (LnR ts (k + 1) w v9 w8) := Lib.hid (HS4.out.next hlt (r := (⟨K, rid, au, aq, is, me, ca, a, cu, d, cg, f⟩ : Rec)) (by rw [HP.out]; exact HT.out) HA.out HG.out)
          exact ⟨⟨k + 1, by omega, by go_num, HW2⟩, by simp [intOf]; omega⟩
        | true =>
          cases h7 : numOK (prt (cutS (prt ts k)) 7) with
          | false =>
            have HE := Lib.hid (hE7 h7)
            clear hE12 hE0 hE7 hEy hlb
            rw [hl] at HSP
            generalize hp : prt ts k = p at *
            generalize hlp : cutS p = l at *
            have HP := Lib.hid hp
            clear hp hlp
            go_wp2_with fail
            refine HSP.out.mono ?_
            rintro e w3 ⟨rfl, hw3⟩
            have hb3 : Below (wr.alloc (.cells zrec.cells 57)).heap.size (wr.alloc (.cells zrec.cells 57)) w3 := by rw [hw3]; exact bx _ _
            have HS3 := Lib.hid (HS1.out.below hb3)
            have HX0 := Lib.hid (blk_later HX1.out hb3)
            have HL : Hid (w3.heap[(wr.alloc (.cells zrec.cells 57)).heap.size]? = some (.cells (l.map Value.string).toArray 9)) := Lib.hid (by rw [hw3]; exact heap_alloc_new _ _)
            rw [World.size_alloc] at HL ⊢
            clear hw3 c0 c1 hb3 HSP HS1 HX1
            generalize hblk : wr.heap.size = blk at *
            have HBK := Lib.hid hblk
            clear hblk
            have HB0 := Lib.hid h0
            have HB7 := Lib.hid h7
            clear h0 h7
            have a0 := str_cell HL.out 0 (by omega)
            go_wp2_with fail
            refine (HN1.out 0 _).mono ?_
            rintro e w4 ⟨⟨q0, rfl, hq0⟩, rfl⟩
            have HQ0 := Lib.hid hq0
            clear a0 hq0
            have a7 := str_cell HL.out 7 (by omega)
            go_wp2_with fail
            refine (HN1.out 7 _).mono ?_
            rintro e w4 ⟨⟨q7, rfl, hq7⟩, rfl⟩
            have HQ7 := Lib.hid hq7
            clear a7 hq7
            rw [HB0.out]
            rw [HB7.out]
            have HX : Hid (w3.heap[blk]? = some (.cells (clmT p).cells 57)) := Lib.hid (by rw [HE.out]; exact HX0.out)
            obtain ⟨R, hR⟩ : ∃ R, clmT p = R := ⟨_, rfl⟩
            rw [hR] at HX
            have HT := Lib.hid hR
            clear hR
            obtain ⟨K, rid, au, aq, is, me, ca, a, cu, d, cg, f⟩ := R
            unfold Rec.cells at HX
            dsimp only at HX HT
            have h3z : blk < w3.heap.size := (Array.getElem?_eq_some_iff.1 HX.out).1
            have HS4 := Lib.hid (HS3.out.below (bx w3 (.cells #[.int .i64 K, .string rid, .string au, .string aq, .string is, .string me, .string ca, .int .i64 a, .string cu, .int .i64 d, .int .i64 cg, .bool f] 57)))
            go_wp2_with (first | (refine wpList_load_row rfl 57 _ rfl blk rfl 57 _ _ _ HX.out Tryz.underlying57 rfl (info25 (⟨K, rid, au, aq, is, me, ca, a, cu, d, cg, f⟩ : Rec)) ?_) | (at_builtin; refine wpList_append_own _ rfl (.tmp 50) (.tmp 52) _ rfl (w.heap.size + 1) 57 i57 _ 12 152 Tryz.underlying34 HI.out.1 HI.out.2.1 HI.out.2.2.1 HI.out.2.2.2 rfl (by omega) _ _ _ rfl HS4.out.o ⟨w3.heap.size, 0, none⟩ 1 1 [.int .i64 K, .string rid, .string au, .string aq, .string is, .string me, .string ca, .int .i64 a, .string cu, .int .i64 d, .int .i64 cg, .bool f] rfl rfl (World.news_of_block (cs := #[.int .i64 K, .string rid, .string au, .string aq, .string is, .string me, .string ca, .int .i64 a, .string cu, .int .i64 d, .int .i64 cg, .bool f]) (t := 57) (fr := (0, 0)) (heap_alloc_new w3 _)) (by simp [Value.oneCell']) (by unfold maxLen; omega) (by omega) (by simp; omega) ?_; intro v9 w8 hown hgrow hnil; have HA := Lib.hid hown; have HG := Lib.hid hgrow; clear hown hgrow hnil))
            have HW2 : Hid (LnR ts (k + 1) w v9 w8) := Lib.hid (HS4.out.next hlt (r := (⟨K, rid, au, aq, is, me, ca, a, cu, d, cg, f⟩ : Rec)) (by rw [HP.out]; exact HT.out) HA.out HG.out)
            exact ⟨⟨k + 1, by omega, by go_num, HW2⟩, by simp [intOf]; omega⟩
          | true =>
            have HE := Lib.hid (hEy hl h0 h7)
            clear hE12 hE0 hE7 hEy hlb
            rw [hl] at HSP
            generalize hp : prt ts k = p at *
            generalize hlp : cutS p = l at *
            have HP := Lib.hid hp
            clear hp hlp
            go_wp2_with fail
            refine HSP.out.mono ?_
            rintro e w3 ⟨rfl, hw3⟩
            have hb3 : Below (wr.alloc (.cells zrec.cells 57)).heap.size (wr.alloc (.cells zrec.cells 57)) w3 := by rw [hw3]; exact bx _ _
            have HS3 := Lib.hid (HS1.out.below hb3)
            have HX0 := Lib.hid (blk_later HX1.out hb3)
            have HL : Hid (w3.heap[(wr.alloc (.cells zrec.cells 57)).heap.size]? = some (.cells (l.map Value.string).toArray 9)) := Lib.hid (by rw [hw3]; exact heap_alloc_new _ _)
            rw [World.size_alloc] at HL ⊢
            clear hw3 c0 c1 hb3 HSP HS1 HX1
            generalize hblk : wr.heap.size = blk at *
            have HBK := Lib.hid hblk
            clear hblk
            have HB0 := Lib.hid h0
            have HB7 := Lib.hid h7
            clear h0 h7
            have a0 := str_cell HL.out 0 (by omega)
            go_wp2_with fail
            refine (HN1.out 0 _).mono ?_
            rintro e w4 ⟨⟨q0, rfl, hq0⟩, rfl⟩
            have HQ0 := Lib.hid hq0
            clear a0 hq0
            have a7 := str_cell HL.out 7 (by omega)
            go_wp2_with fail
            refine (HN1.out 7 _).mono ?_
            rintro e w4 ⟨⟨q7, rfl, hq7⟩, rfl⟩
            have HQ7 := Lib.hid hq7
            clear a7 hq7
            obtain rfl : numV (prt l 0) = q0 := (HQ0.out HB0.out).symm
            obtain rfl : numV (prt l 7) = q7 := (HQ7.out HB7.out).symm
            rw [HB0.out, HB7.out]
            have a6 := str_cell HL.out 6 (by omega)
            have HE2 : Hid (clmT p = (⟨numV (prt l 0), ⟨#[]⟩, ⟨#[]⟩, ⟨#[]⟩, ⟨#[]⟩, ⟨#[]⟩, prt l 6, numV (prt l 7), ⟨#[]⟩, 0, 0, false⟩ : Rec)) := Lib.hid (HE.out)
            obtain ⟨c6, hc6⟩ : ∃ c6, prt l 6 = c6 := ⟨_, rfl⟩
            obtain ⟨y0, hy0⟩ : ∃ y0, numV (prt l 0) = y0 := ⟨_, rfl⟩
            obtain ⟨y7, hy7⟩ : ∃ y7, numV (prt l 7) = y7 := ⟨_, rfl⟩
            rw [hc6] at a6
            rw [hc6, hy0, hy7] at HE2
            rw [hy0, hy7]
            clear hc6 hy0 hy7 HQ0 HQ7 HE HL HN1 HB0 HB7
            have HSR := Lib.hid (HS3.out.setRow (g := blk) hwz (by
              cases hu : u3.ownBlock with
              | none => exact .inl rfl
              | some j => exact .inr (fun e => HOB.out j hu (by injection e))) (Rec.cells (⟨y0, ⟨#[]⟩, ⟨#[]⟩, ⟨#[]⟩, ⟨#[]⟩, ⟨#[]⟩, c6, y7, ⟨#[]⟩, 0, 0, false⟩ : Rec)))
            have HX : Hid ((w3.setRow blk (Rec.cells (⟨y0, ⟨#[]⟩, ⟨#[]⟩, ⟨#[]⟩, ⟨#[]⟩, ⟨#[]⟩, c6, y7, ⟨#[]⟩, 0, 0, false⟩ : Rec))).heap[blk]? = some (.cells (Rec.cells (⟨y0, ⟨#[]⟩, ⟨#[]⟩, ⟨#[]⟩, ⟨#[]⟩, ⟨#[]⟩, c6, y7, ⟨#[]⟩, 0, 0, false⟩ : Rec)) 57)) := Lib.hid (setRow_heap _ _ _ _ _ _ HX0.out)
            have h3z : blk < (w3.setRow blk (Rec.cells (⟨y0, ⟨#[]⟩, ⟨#[]⟩, ⟨#[]⟩, ⟨#[]⟩, ⟨#[]⟩, c6, y7, ⟨#[]⟩, 0, 0, false⟩ : Rec))).heap.size := (Array.getElem?_eq_some_iff.1 HX.out).1
            have HS4 := Lib.hid (HSR.out.below (bx (w3.setRow blk (Rec.cells (⟨y0, ⟨#[]⟩, ⟨#[]⟩, ⟨#[]⟩, ⟨#[]⟩, ⟨#[]⟩, c6, y7, ⟨#[]⟩, 0, 0, false⟩ : Rec))) (.cells #[.int .i64 y0, .string ⟨#[]⟩, .string ⟨#[]⟩, .string ⟨#[]⟩, .string ⟨#[]⟩, .string ⟨#[]⟩, .string c6, .int .i64 y7, .string ⟨#[]⟩, .int .i64 0, .int .i64 0, .bool false] 57)))
            have h3w : blk < w3.heap.size := (Array.getElem?_eq_some_iff.1 HX0.out).1
            unfold Rec.cells at HX
            dsimp only at HX
            go_wp2_with (first | (refine wpList_store_row rfl 57 _ _ rfl blk (Rec.cells (⟨y0, ⟨#[]⟩, ⟨#[]⟩, ⟨#[]⟩, ⟨#[]⟩, ⟨#[]⟩, c6, y7, ⟨#[]⟩, 0, 0, false⟩ : Rec)) rfl rfl 57 _ HX0.out (info25 _) rfl (rec_one _) ?_) | (refine wpList_load_row rfl 57 _ rfl blk rfl 57 _ _ _ HX.out Tryz.underlying57 rfl (info25 (⟨y0, ⟨#[]⟩, ⟨#[]⟩, ⟨#[]⟩, ⟨#[]⟩, ⟨#[]⟩, c6, y7, ⟨#[]⟩, 0, 0, false⟩ : Rec)) ?_) | (at_builtin; refine wpList_append_own _ rfl (.tmp 50) (.tmp 52) _ rfl (w.heap.size + 1) 57 i57 _ 12 152 Tryz.underlying34 HI.out.1 HI.out.2.1 HI.out.2.2.1 HI.out.2.2.2 rfl (by omega) _ _ _ rfl HS4.out.o ⟨_, 0, none⟩ 1 1 [.int .i64 y0, .string ⟨#[]⟩, .string ⟨#[]⟩, .string ⟨#[]⟩, .string ⟨#[]⟩, .string ⟨#[]⟩, .string c6, .int .i64 y7, .string ⟨#[]⟩, .int .i64 0, .int .i64 0, .bool false] rfl rfl (World.news_of_block (cs := #[.int .i64 y0, .string ⟨#[]⟩, .string ⟨#[]⟩, .string ⟨#[]⟩, .string ⟨#[]⟩, .string ⟨#[]⟩, .string c6, .int .i64 y7, .string ⟨#[]⟩, .int .i64 0, .int .i64 0, .bool false]) (t := 57) (fr := (0, 0)) (by first | exact new_setRow _ _ _ _ | exact heap_alloc_new _ _)) (by simp [Value.oneCell']) (by unfold maxLen; omega) (by omega) (by rw [World.size_alloc, size_setRow]; omega) ?_; intro v9 w8 hown hgrow hnil; have HA := Lib.hid hown; have HG := Lib.hid hgrow; clear hown hgrow hnil))
            have HW2 : Hid (LnR ts (k + 1) w v9 w8) := Lib.hid (HS4.out.next hlt (r := (⟨y0, ⟨#[]⟩, ⟨#[]⟩, ⟨#[]⟩, ⟨#[]⟩, ⟨#[]⟩, c6, y7, ⟨#[]⟩, 0, 0, false⟩ : Rec)) (by rw [HP.out]; exact HE2.out) HA.out HG.out)
            exact ⟨⟨k + 1, by omega, by go_num, HW2⟩, by simp [intOf]; omega⟩
      · have hlb : (((cutS (prt ts k)).length : Int) == 12) = false := by simp; omega
        have HE := Lib.hid (hE12 hl)
        clear hE12 hE0 hE7 hEy hl HN1
        generalize hp : prt ts k = p at *
        generalize cutS p = l at *
        have HP := Lib.hid hp
        clear hp
        go_wp2_with fail
        refine HSP.out.mono ?_
        rintro e w3 ⟨rfl, hw3⟩
        have hb3 : Below (wr.alloc (.cells zrec.cells 57)).heap.size (wr.alloc (.cells zrec.cells 57)) w3 := by rw [hw3]; exact bx _ _
        have HS3 := Lib.hid (HS1.out.below hb3)
        have HX0 := Lib.hid (blk_later HX1.out hb3)
        have HL : Hid (w3.heap[(wr.alloc (.cells zrec.cells 57)).heap.size]? = some (.cells (l.map Value.string).toArray 9)) := Lib.hid (by rw [hw3]; exact heap_alloc_new _ _)
        rw [World.size_alloc] at HL ⊢
        clear hw3 c0 c1 hb3 HSP HS1 HX1
        generalize hblk : wr.heap.size = blk at *
        have HBK := Lib.hid hblk
        clear hblk
        have HX : Hid (w3.heap[blk]? = some (.cells (clmT p).cells 57)) := Lib.hid (by rw [HE.out]; exact HX0.out)
        obtain ⟨R, hR⟩ : ∃ R, clmT p = R := ⟨_, rfl⟩
        rw [hR] at HX
        have HT := Lib.hid hR
        clear hR
        obtain ⟨K, rid, au, aq, is, me, ca, a, cu, d, cg, f⟩ := R
        unfold Rec.cells at HX
        dsimp only at HX HT
        have h3z : blk < w3.heap.size := (Array.getElem?_eq_some_iff.1 HX.out).1
        have HS4 := Lib.hid (HS3.out.below (bx w3 (.cells #[.int .i64 K, .string rid, .string au, .string aq, .string is, .string me, .string ca, .int .i64 a, .string cu, .int .i64 d, .int .i64 cg, .bool f] 57)))
        go_wp2_with (first | (refine wpList_load_row rfl 57 _ rfl blk rfl 57 _ _ _ HX.out Tryz.underlying57 rfl (info25 (⟨K, rid, au, aq, is, me, ca, a, cu, d, cg, f⟩ : Rec)) ?_) | (at_builtin; refine wpList_append_own _ rfl (.tmp 50) (.tmp 52) _ rfl (w.heap.size + 1) 57 i57 _ 12 152 Tryz.underlying34 HI.out.1 HI.out.2.1 HI.out.2.2.1 HI.out.2.2.2 rfl (by omega) _ _ _ rfl HS4.out.o ⟨w3.heap.size, 0, none⟩ 1 1 [.int .i64 K, .string rid, .string au, .string aq, .string is, .string me, .string ca, .int .i64 a, .string cu, .int .i64 d, .int .i64 cg, .bool f] rfl rfl (World.news_of_block (cs := #[.int .i64 K, .string rid, .string au, .string aq, .string is, .string me, .string ca, .int .i64 a, .string cu, .int .i64 d, .int .i64 cg, .bool f]) (t := 57) (fr := (0, 0)) (heap_alloc_new w3 _)) (by simp [Value.oneCell']) (by unfold maxLen; omega) (by omega) (by simp; omega) ?_; intro v9 w8 hown hgrow hnil; have HA := Lib.hid hown; have HG := Lib.hid hgrow; clear hown hgrow hnil))
        have HW2 : Hid (LnR ts (k + 1) w v9 w8) := Lib.hid (HS4.out.next hlt (r := (⟨K, rid, au, aq, is, me, ca, a, cu, d, cg, f⟩ : Rec)) (by rw [HP.out]; exact HT.out) HA.out HG.out)
        exact ⟨⟨k + 1, by omega, by go_num, HW2⟩, by simp [intOf]; omega⟩
    · obtain rfl : k = ts.length := by omega
      have kI : ¬ (ts.length : Int) < (ts.length : Int) := by omega
      obtain ⟨A2, c2, rfl, hrow, hcc⟩ := own_form HW.out.o
      rw [List.take_length] at hrow
      have HT := Lib.hid (rbsum_any A2 c2 (ts.map clmT) wr hrow (fun x hx => by
        obtain ⟨y, hy, rfl⟩ := List.mem_map.1 hx
        exact clmT_fit (HSZ.out y hy)) (by rw [List.length_map]; exact hm))
      unfold RSumPost totV at HT
      rw [List.length_map] at HT
      have HZ := Lib.hid HW.out.z
      have HBE := Lib.hid HW.out.be
      clear hrow hcc
      go_wp2_with fail
      refine HT.out.mono ?_
      rintro e w5 ⟨rfl, hb⟩
      have HZ5 := Lib.hid (blk_later HZ.out hb)
      have HB5 := Lib.hid (HBE.out.trans (hb.mono HBE.out.size))
      clear hb HT
      obtain ⟨D, hD⟩ : ∃ D, debS (ts.map clmT) ts.length = D := ⟨_, rfl⟩
      obtain ⟨C, hC⟩ : ∃ C, creS (ts.map clmT) ts.length = C := ⟨_, rfl⟩
      obtain ⟨TT, hTT⟩ : ∃ TT, C7.totB (cardsOf (ts.map clmT)) = TT := ⟨_, rfl⟩
      rw [hD, hC, hTT]
      have HEQ := Lib.hid (And.intro hD (And.intro hC hTT))
      clear hD hC hTT
      go_wp2_with (refine wpList_store_row rfl 48 _ _ rfl w.heap.size #[.int .i64 ts.length, .int .i64 D, .int .i64 C, .int .i64 TT] rfl rfl 48 _ HZ5.out (info48 _ _ _ _) rfl (by simp [Value.oneCell']) ?_)
      refine bodyPost_ret (results_row1 (show Tryz.f72.results = #[.cell 2 48] by kernel_rfl) _ _ w.heap.size 48 #[.int .i64 ts.length, .int .i64 D, .int .i64 C, .int .i64 TT] (0, 0) _ rfl (setRow_heap _ _ _ _ _ _ HZ5.out) Tryz.underlying48 rfl (info48 _ _ _ _)) rfl ?_
      exact ⟨by rw [List.length_map, HEQ.out.1, HEQ.out.2.1, HEQ.out.2.2]; rfl, below_setRow HB5.out (Nat.le_refl _) _⟩
end Go.Proofs.YthflmdgfenojcaaGreatDoor
