/- Part of the proof over this seat. -/
import Derived.ChangeKeysEq
import Derived.Test.YthflmdgfenojcaaGreatDoorQCl
import Derived.Test.YthflmdgfenojcaaGreatDoorQBen
namespace Go.Proofs.YthflmdgfenojcaaGreatDoor
set_option linter.unusedVariables false
open Go.RowKit Go.Sort
theorem mk2 : (Tryz.prog.info? 2).map (fun i => (i.zero, i.size, i.bytes)) = some (some (.int .i64 0), 1, 8) := by kernel_rfl
set_option maxRecDepth 100000 in
theorem neq_arr (x0 x1 x2 x3 y0 y1 y2 y3 : Int) (w : World) : (binOp .neq 145 (.agg #[.int .i64 x0, .int .i64 x1, .int .i64 x2, .int .i64 x3]) (.agg #[.int .i64 y0, .int .i64 y1, .int .i64 y2, .int .i64 y3])).run Tryz.prog w = .ok (.bool (!(x0 == y0 && (x1 == y1 && (x2 == y2 && x3 == y3))))) w := by
  obtain ⟨i0, hi0, hz0, hz1, hz2⟩ := info_parts mk2
  rw [run_neq_struct, run_equalIn_array w 9999 _ _ Tryz.underlying145 hi0]
  have e : List.range 4 = [0, 1, 2, 3] := rfl
  have e2 : Tryz.prog.cellsOf 2 = 1 := by kernel_rfl
  rw [e, e2]
  simp only [Op.eqItems]
  cases h0 : x0 == y0 <;> cases h1 : x1 == y1 <;> cases h2 : x2 == y2 <;> cases h3 : x3 == y3 <;> go_simp
theorem exaE_crc {s : ByteArray} (h : ckD s ≠ crcS (cov s).data.toList) : exaE s = 9 := by unfold exaE; rw [if_pos h]
theorem exaE_tot {s : ByteArray} (h : ckD s = crcS (cov s).data.toList) (h2 : ¬ TotF s) : exaE s = 9 := by unfold exaE; rw [if_neg (by simp [h]), if_pos h2]
theorem exaE_long {s : ByteArray} (h : ckD s = crcS (cov s).data.toList) (h2 : TotF s) (h3 : 200 < nRc s) : exaE s = 3 := by unfold exaE; rw [if_neg (by simp [h]), if_neg (by simp [h2]), if_pos h3]
theorem exaE_head {s : ByteArray} (h : ckD s = crcS (cov s).data.toList) (h2 : TotF s) (h3 : ¬ 200 < nRc s) : exaE s = headE (hdP s 1) (hdP s 2) (numV (hdP s 3)) := by unfold exaE; rw [if_neg (by simp [h]), if_neg (by simp [h2]), if_neg h3]
theorem clm_fit {x : ByteArray} (hx : x.size ≤ 1000000) : (clm x).Fit := by
  have hm : ∀ n, n ≤ 1000000 → n ≤ maxLen := fun n q => by unfold maxLen; omega
  unfold clm
  split
  · exact ⟨hm _ (Nat.zero_le _), hm _ (Nat.zero_le _), hm _ (Nat.zero_le _), hm _ (Nat.zero_le _), hm _ (Nat.zero_le _), hm _ (Nat.le_trans (prt_size x 7) hx), hm _ (Nat.zero_le _)⟩
  · exact ⟨hm _ (by decide), hm _ (by decide), hm _ (by decide), hm _ (by decide), hm _ (by decide), hm _ (by decide), hm _ (by decide)⟩
theorem recLs_len (s : ByteArray) : (recLs s).length = nRc s := by unfold recLs; simp
theorem recLs_size (s : ByteArray) : ∀ x ∈ recLs s, x.size ≤ s.size := fun x hx => by
  unfold recLs at hx
  obtain ⟨k, _, rfl⟩ := List.mem_map.1 hx
  exact lnAt_size s _
theorem nRc_le (s : ByteArray) : nRc s ≤ s.size := by
  have q3 := lnS_len (bodyOf s)
  rw [count_lf] at q3
  have h1 := List.count_le_length (a := (10 : UInt8)) (l := (bodyOf s).data.toList)
  have h2 : (bodyOf s).data.toList.length ≤ s.size := by
    show (bodyOf s).size ≤ s.size
    unfold bodyOf
    rw [ByteArray.size_extract]; omega
  unfold nRc nLn
  omega
set_option maxRecDepth 1000000 in
set_option maxHeartbeats 12800000 in
theorem exam_any (s : ByteArray) (g c : Nat) (w : World) (hw : BW w) (hs : s.size ≤ 1000000) (hc : nRc s ≤ c) (hr : IsRow w (some ⟨g, 1, none⟩) ((recLs s).map Value.string)) : Calls Tryz.prog 105 #[(frmOf s g c).val] w (PtPost (exaE s) w) := by
  have HKW := Lib.hid hw
  have HR := Lib.hid hr
  have HNL := Lib.hid (nRc_le s)
  have HCR : Hid (∀ W, BW W → Calls Tryz.prog 96 #[.string (cov s)] W (StrPost (crcS (cov s).data.toList) W)) := Lib.hid (fun W hW => crcd_any (cov s) W hW.2 (by unfold cov; rw [ByteArray.size_extract]; unfold maxLen; omega))
  have HCL : Hid (∀ W, KW W → IsRow W (some ⟨g, 1, none⟩) ((recLs s).map Value.string) → Calls Tryz.prog 150 #[.slice (some ⟨g, 1, none⟩) (nRc s) c] W (ClmPost (recLs s) W)) := Lib.hid (fun W hW h => by
    have := clm_any (some ⟨g, 1, none⟩) c (recLs s) W hW h (fun j => prt_le (fun x hx => Nat.le_trans (recLs_size s x hx) hs) j) (by rw [recLs_len]; have := nRc_le s; omega)
    rw [recLs_len] at this; exact this)
  have HSM : Hid (∀ A W, IsRow W A ((clmL s).flatMap recF) → Calls Tryz.prog 45 #[.slice A (nRc s) (nRc s)] W (SumPost (clmL s) W)) := Lib.hid (fun A W h => by
    have hl : (clmL s).length = nRc s := by unfold clmL; rw [List.length_map, recLs_len]
    have := bsum_any A (nRc s) (clmL s) W h (fun x hx => by
      unfold clmL at hx
      obtain ⟨y, hy, rfl⟩ := List.mem_map.1 hx
      exact clm_fit (Nat.le_trans (recLs_size s y hy) hs)) (by omega) (by have := nRc_le s; omega)
    rw [hl] at this; exact this)
  have hcl : (clmL s).length = nRc s := by unfold clmL; rw [List.length_map, recLs_len]
  have HRW : Hid ((recLs s).map clm = clmL s) := Lib.hid rfl
  have HID := Lib.hid (fun W => bident_any (hdP s 1) W (by unfold hdP; have := prt_size (lnAt s 0) 1; have := lnAt_size s 0; unfold maxLen; omega))
  have HNA := Lib.hid (fun W => lname_any (hdP s 2) W (by unfold hdP; have := prt_size (lnAt s 0) 2; have := lnAt_size s 0; unfold maxLen; omega))
  have HX0 := Lib.hid (exaE_crc (s := s))
  have HX1 := Lib.hid (exaE_tot (s := s))
  have HX2 := Lib.hid (exaE_long (s := s))
  have HX3 := Lib.hid (exaE_head (s := s))
  have HH5 := Lib.hid (fun h => headE_5 (id := hdP s 1) (sd := hdP s 2) (dt := numV (hdP s 3)) h)
  have HH14 := Lib.hid (fun h h2 h3 => headE_14 (id := hdP s 1) (sd := hdP s 2) (dt := numV (hdP s 3)) h h2 h3)
  have HH0 := Lib.hid (fun h h2 h3 => headE_0 (id := hdP s 1) (sd := hdP s 2) (dt := numV (hdP s 3)) h h2 h3)
  have HTF : Hid (TotF s ↔ (numV (trP s 1) = (nRc s : Int) ∧ numV (trP s 2) = debS (clmL s) (nRc s) ∧ numV (trP s 3) = creS (clmL s) (nRc s) ∧ numV (trP s 4) = (C7.totB (cardsOf (clmL s)) : Int))) := Lib.hid Iff.rfl
  unfold SumPost totV at HSM
  unfold ClmPost at HCL
  unfold StrPost at HCR
  simp only [HRW.out, recLs_len] at HCL
  simp only [hcl] at HSM
  unfold PtPost frmOf Frm.val Frm.cells
  dsimp only
  clear hw hr HRW hcl
  generalize exaE s = EX at *
  generalize headE (hdP s 1) (hdP s 2) (numV (hdP s 3)) = HE at *
  generalize (clmL s).flatMap recF = CF at *
  generalize debS (clmL s) (nRc s) = DB at *
  generalize creS (clmL s) (nRc s) = CC at *
  generalize C7.totB (cardsOf (clmL s)) = TB at *
  generalize (recLs s).map Value.string = RL at *
  generalize crcS (cov s).data.toList = CRC at *
  generalize numV (hdP s 3) = x3 at *
  generalize hdP s 1 = x1 at *
  generalize hdP s 2 = x2 at *
  have e1 : trP s (0 + 1) = trP s 1 := rfl
  have e2 : trP s (1 + 1) = trP s 2 := rfl
  have e3 : trP s (2 + 1) = trP s 3 := rfl
  have e4 : trP s (3 + 1) = trP s 4 := rfl
  rw [e1, e2, e3, e4]
  clear e1 e2 e3 e4
  generalize numV (trP s 1) = t1 at *
  generalize numV (trP s 2) = t2 at *
  generalize numV (trP s 3) = t3 at *
  generalize numV (trP s 4) = t4 at *
  generalize ckD s = ck at *
  generalize cov s = cv at *
  generalize nRc s = n at *
  obtain ⟨WB, hWB⟩ : ∃ WB, w.alloc (.cells #[.string x1, .string x2, .int .i64 x3, .slice (some ⟨g, 1, none⟩) n c, .int .i64 t1, .int .i64 t2, .int .i64 t3, .int .i64 t4, .string ck, .string cv] 147) = WB := ⟨_, rfl⟩
  have HBX : Hid (WB.heap[w.heap.size]? = some (.cells #[.string x1, .string x2, .int .i64 x3, .slice (some ⟨g, 1, none⟩) n c, .int .i64 t1, .int .i64 t2, .int .i64 t3, .int .i64 t4, .string ck, .string cv] 147) ∧ Below w.heap.size w WB) := Lib.hid (by rw [← hWB]; exact ⟨heap_alloc_new _ _, bx _ _⟩)
  by_cases hck : ck = CRC
  case neg =>
    have hE := Lib.hid (HX0.out hck)
    obtain ⟨q0, n0⟩ := str_ne hck
    clear hck HX1 HX2 HX3 HH5 HH14 HH0 HTF HSM HCL
    go_enter Tryz.func105, Tryz.ntmps105
    go_wp2_with fail
    clear hWB
    have HBW : Hid (Below WB.heap.size WB WB.drew) := Lib.hid ((Below.refl _ _).drew)
    go_region_held3 (fun X => X.cell? ⟨w.heap.size, 8, none⟩ = some (.string ck) ∧ X.cell? ⟨w.heap.size, 9, none⟩ = some (.string cv))
      (exact ⟨cell_c (blk_later HBX.out.1 HBW.out) 8, cell_c (blk_later HBX.out.1 HBW.out) 9⟩)
      (first | (go_at_call 96; refine (HCR.out _ (HKW.out.below (HBX.out.2.trans (HBW.out.mono HBX.out.2.size)))).mono ?_; rintro e w' ⟨rfl, hb⟩; have HBW := Lib.hid (HBW.out.trans (hb.mono HBW.out.size)); clear hb))
    go_wp2_with fail
    go_ret
    exact ⟨by rw [hE.out]; rfl, HBX.out.2.trans (HBW.out.mono HBX.out.2.size)⟩
  case pos =>
  subst hck
  have hck : ck = ck := rfl
  obtain ⟨q0, n0⟩ := str_eq hck
  have HY1 := Lib.hid (HX1.out rfl)
  have HY2 := Lib.hid (HX2.out rfl)
  have HY3 := Lib.hid (HX3.out rfl)
  clear hck n0 HX0 HX1 HX2 HX3
  go_enter Tryz.func105, Tryz.ntmps105
  go_wp2_with fail
  clear hWB
  have HBW : Hid (Below WB.heap.size WB WB.drew) := Lib.hid ((Below.refl _ _).drew)
  go_region_held3 (fun X => X.cell? ⟨w.heap.size, 8, none⟩ = some (.string ck) ∧ X.cell? ⟨w.heap.size, 9, none⟩ = some (.string cv))
    (exact ⟨cell_c (blk_later HBX.out.1 HBW.out) 8, cell_c (blk_later HBX.out.1 HBW.out) 9⟩)
    (first | (go_at_call 96; refine (HCR.out _ (HKW.out.below (HBX.out.2.trans (HBW.out.mono HBX.out.2.size)))).mono ?_; rintro e w' ⟨rfl, hb⟩; have HBW := Lib.hid (HBW.out.trans (hb.mono HBW.out.size)); clear hb))
  have HBX := Lib.hid (And.intro (blk_later HBX.out.1 HBW.out) (HBX.out.2.trans (HBW.out.mono HBX.out.2.size)))
  clear HBW HCR
  obtain ⟨W1, hW1⟩ : ∃ W1, W1 = w' := ⟨_, rfl⟩
  subst hW1
  have d3 := cell_c HBX.out.1 3
  simp at d3
  go_wp2_with fail
  refine (HCL.out _ (HKW.out.below HBX.out.2).1 (HR.out.below HBX.out.2)).mono ?_
  rintro e w2 ⟨rfl, hrow, hb⟩
  have HBX := Lib.hid (And.intro (blk_later HBX.out.1 hb) (HBX.out.2.trans (hb.mono HBX.out.2.size)))
  have HRW := Lib.hid hrow
  clear hb hrow d3
  go_wp2_with fail
  refine (HSM.out _ _ HRW.out).mono ?_
  rintro e w3 ⟨rfl, hb⟩
  have HBX := Lib.hid (And.intro (blk_later HBX.out.1 hb) (HBX.out.2.trans (hb.mono HBX.out.2.size)))
  clear hb
  have d0 := cell_c HBX.out.1 0
  have d1 := cell_c HBX.out.1 1
  have d2 := cell_c HBX.out.1 2
  have d3 := cell_c HBX.out.1 3
  have d4 := cell_c HBX.out.1 4
  have d5 := cell_c HBX.out.1 5
  have d6 := cell_c HBX.out.1 6
  have d7 := cell_c HBX.out.1 7
  simp at d0 d1 d2 d3 d4 d5 d6 d7
  have HB4 := Lib.hid (HBX.out.2.trans ((bx w3 (.cells #[.int .i64 n, .int .i64 DB, .int .i64 CC, .int .i64 TB] 46)).mono HBX.out.2.size))
  have hwl : w.heap.size < w3.heap.size := (Array.getElem?_eq_some_iff.1 HBX.out.1).1
  have hna := neq_arr t1 t2 t3 t4 n DB CC TB
  by_cases hT : t1 = (n : Int) ∧ t2 = DB ∧ t3 = CC ∧ t4 = TB
  case neg =>
    have hE := Lib.hid (HY1.out (fun h => hT (HTF.out.1 h)))
    have hb : (!(t1 == (n : Int) && (t2 == DB && (t3 == CC && t4 == (TB : Int))))) = true := by
      rw [Bool.not_eq_true']
      cases hx : (t1 == (n : Int) && (t2 == DB && (t3 == CC && t4 == (TB : Int))))
      · rfl
      · simp only [Bool.and_eq_true, beq_iff_eq] at hx; exact absurd hx hT
    rw [hb] at hna
    clear hb hT
    go_wp2_with fail
    go_ret
    exact ⟨by rw [hE.out]; rfl, HB4.out⟩
  case pos =>
  have hTT := HTF.out.2 hT
  have hb : (!(t1 == (n : Int) && (t2 == DB && (t3 == CC && t4 == (TB : Int))))) = false := by
    obtain ⟨a, b, c, d⟩ := hT
    rw [a, b, c, d]; simp
  rw [hb] at hna
  clear hb hT
  have HNA := HNA
  by_cases h2 : 200 < n
  · have hE := Lib.hid (HY2.out hTT h2)
    have h2I : (200 : Int) < (n : Int) := by omega
    clear hTT
    go_wp2_with fail
    go_ret
    exact ⟨by rw [hE.out]; rfl, HB4.out⟩
  have h2I : ¬ (200 : Int) < (n : Int) := by omega
  have HEH := Lib.hid (HY3.out hTT h2)
  clear hTT h2 HY1 HY2 HY3 HTF
  cases qi : idB x1 with
  | false =>
    have hE := Lib.hid (HEH.out.trans (HH5.out (fun h => by rw [qi] at h; exact absurd h.1 (by decide))))
    rw [qi] at HID
    go_wp2_with fail
    refine (HID.out _).mono ?_
    rintro e w5 ⟨rfl, rfl⟩
    go_wp2_with fail
    go_ret
    exact ⟨by rw [hE.out]; rfl, HB4.out⟩
  | true =>
  cases qn : nameB x2.data.toList with
  | false =>
    have hE := Lib.hid (HEH.out.trans (HH5.out (fun h => by rw [qn] at h; exact absurd h.2 (by decide))))
    rw [qi] at HID
    rw [qn] at HNA
    go_wp2_with fail
    refine (HID.out _).mono ?_
    rintro e w5 ⟨rfl, rfl⟩
    go_wp2_with fail
    refine (HNA.out _).mono ?_
    rintro e w5 ⟨rfl, rfl⟩
    go_wp2_with fail
    go_ret
    exact ⟨by rw [hE.out]; rfl, HB4.out⟩
  | true =>
  have hd : x3 < 0 ∨ (¬ x3 < 0 ∧ 99999 < x3) ∨ (¬ x3 < 0 ∧ ¬ 99999 < x3) := by omega
  have H14 := Lib.hid (HH14.out qi qn)
  have H0 := Lib.hid (HH0.out qi qn)
  rw [qi] at HID
  rw [qn] at HNA
  clear HH5 HH14 HH0 qi qn
  rcases hd with q | ⟨q, q'⟩ | ⟨q, q'⟩
  iterate 2
    · have hE := Lib.hid (HEH.out.trans (H14.out (by omega)))
      go_wp2_with fail
      refine (HID.out _).mono ?_
      rintro e w5 ⟨rfl, rfl⟩
      go_wp2_with fail
      refine (HNA.out _).mono ?_
      rintro e w5 ⟨rfl, rfl⟩
      go_wp2_with fail
      go_ret
      exact ⟨by rw [hE.out]; rfl, HB4.out⟩
  · have hE := Lib.hid (HEH.out.trans (H0.out (by omega)))
    go_wp2_with fail
    refine (HID.out _).mono ?_
    rintro e w5 ⟨rfl, rfl⟩
    go_wp2_with fail
    refine (HNA.out _).mono ?_
    rintro e w5 ⟨rfl, rfl⟩
    go_wp2_with fail
    go_ret
    exact ⟨by rw [hE.out]; rfl, HB4.out⟩
end Go.Proofs.YthflmdgfenojcaaGreatDoor
