/- Part of the proof over this seat. -/
import Derived.Outline
import Derived.Test.YthflmdgfenojcaaGreatDoorQCl
namespace Go.Proofs.YthflmdgfenojcaaGreatDoor
set_option linter.unusedVariables false
open Go.RowKit Go.Sort
set_option maxRecDepth 1000000 in
set_option maxHeartbeats 25600000 in
theorem div_any (s : ByteArray) (w : World) (hw : KW w) (hs : s.size ≤ 1000000) : Calls Tryz.prog 104 #[.string s] w (DivPost s w) := by
  have HKW := Lib.hid hw
  have HCN : Hid (∀ W, KW W → Calls Tryz.prog 65 #[.string s, .string ⟨#[10]⟩] W fun e w' => e = .returned (.int .i64 (Lib.countB s lfS)) ∧ w' = W) := Lib.hid (fun W hW => by
    obtain ⟨-, -, -, -, m, hm⟩ := hW
    exact Tryz.strings_Count_any s lfS m W (by omega) hm (by decide))
  have HSX : Hid (∀ W, Calls Tryz.prog 66 #[.string s, .string ⟨#[10]⟩] W fun e w' => e = .returned (.bool (Lib.hasSuffix s.data.toList [10])) ∧ w' = W) := Lib.hid (fun W => Tryz.strings_HasSuffix s ⟨#[10]⟩ W (by omega))
  have HZ := Lib.hid (heap_alloc_new w (.cells zfrm.cells 147))
  by_cases hC : Lib.countB s lfS < 3
  · have HE := Lib.hid (divE_1 hC)
    unfold DivPost
    rw [HE.out]
    have hCI : (Lib.countB s lfS : Int) < 3 := by omega
    generalize Lib.countB s lfS = C at *
    clear hC hw
    go_enter Tryz.func104, Tryz.ntmps104
    go_wp2_with fail
    refine (HCN.out _ (HKW.out.below (bx _ _))).mono ?_
    rintro e w1 ⟨rfl, rfl⟩
    go_wp2_with (refine wpList_store_row rfl 147 _ _ rfl w.heap.size zfrm.cells rfl rfl 147 _ HZ.out (info147 _) rfl (frm_one _) ?_)
    refine bodyPost_ret (v := .tuple #[zfrm.val, .int .i64 1]) ?_ rfl ⟨below_setRow (bx _ _) (Nat.le_refl _) _, .inl ⟨by decide, rfl⟩⟩
    exact results_row_tmp (show Tryz.f104.results = #[.cell 2 147, .tmp 3] by kernel_rfl) _ _ w.heap.size 147 zfrm.cells (0, 0) _ _ rfl rfl (setRow_heap _ _ _ _ _ _ HZ.out) Tryz.underlying147 rfl (info147 _)
  have HE2 := Lib.hid (divE_2 hC)
  have HE0 := Lib.hid (divE_0 hC)
  have hCI : ¬ (Lib.countB s lfS : Int) < 3 := by omega
  by_cases hX : Lib.hasSuffix s.data.toList [10] = true
  case neg =>
    have hXf : Lib.hasSuffix s.data.toList [10] = false := by simpa using hX
    have HE := Lib.hid (HE2.out (fun h => hX h.1))
    unfold DivPost
    rw [HE.out]
    rw [hXf] at HSX
    generalize Lib.countB s lfS = C at *
    clear hC hw HE2 HE0 hX hXf
    go_enter Tryz.func104, Tryz.ntmps104
    go_wp2_with fail
    refine (HCN.out _ (HKW.out.below (bx _ _))).mono ?_
    rintro e w1 ⟨rfl, rfl⟩
    go_wp2_with fail
    refine (HSX.out _).mono ?_
    rintro e w1 ⟨rfl, rfl⟩
    go_wp2_with (refine wpList_store_row rfl 147 _ _ rfl w.heap.size zfrm.cells rfl rfl 147 _ HZ.out (info147 _) rfl (frm_one _) ?_)
    refine bodyPost_ret (v := .tuple #[zfrm.val, .int .i64 2]) ?_ rfl ⟨below_setRow (bx _ _) (Nat.le_refl _) _, .inl ⟨by decide, rfl⟩⟩
    exact results_row_tmp (show Tryz.f104.results = #[.cell 2 147, .tmp 3] by kernel_rfl) _ _ w.heap.size 147 zfrm.cells (0, 0) _ _ rfl rfl (setRow_heap _ _ _ _ _ _ HZ.out) Tryz.underlying147 rfl (info147 _)
  have HE2 : Hid (¬ FormF s → divE s = 2) := Lib.hid (fun h => HE2.out (fun q => h q.2))
  have HE0 : Hid (FormF s → divE s = 0) := Lib.hid (fun h => HE0.out hX h)
  have hcv := cov_form hX
  obtain ⟨hb1, hb2⟩ := suffix_form hX
  have hsz1 : 1 ≤ s.size := by omega
  have hN3 : 3 ≤ nLn s := by
    have q3 := lnS_len (bodyOf s)
    rw [count_lf] at q3 hC
    rw [hb1, List.count_append] at hC
    have : ([10] : List UInt8).count 10 = 1 := rfl
    unfold nLn
    omega
  rw [hX] at HSX
  have HFF : Hid (HdF s → CkF s → TrF s → RcF s → FormF s) := Lib.hid (fun a b c d => ⟨a, b, c, d⟩)
  have HSP : Hid (∀ W, KW W → Calls Tryz.prog 67 #[.string (s.extract 0 (s.size - 1)), .string ⟨#[10]⟩] W (SpnPost (bodyOf s) W)) := Lib.hid (fun W hW => splitlf_any (bodyOf s) W hW (by unfold bodyOf; rw [ByteArray.size_extract]; omega))
  unfold SpnPost at HSP
  have hn : nLn s = (lnS (bodyOf s)).length := rfl
  have hcs : (ckL s).size + 1 ≤ s.size := by
    have h1 := congrArg List.length hcv
    rw [List.length_append, List.length_append, ← Lib.size_eq, ← Lib.size_eq, ← Lib.size_eq] at h1
    simp at h1
    omega
  have hNB : nLn s ≤ 1000001 := by
    have q3 := lnS_len (bodyOf s)
    rw [count_lf] at q3
    have h1 := List.count_le_length (a := (10 : UInt8)) (l := (bodyOf s).data.toList)
    unfold nLn
    omega
  clear hC hw hX hb1 hb2 hcv
  generalize Lib.countB s lfS = C at *
  obtain ⟨L, hL⟩ : ∃ L, lnS (bodyOf s) = L := ⟨_, rfl⟩
  have HAT : Hid (∀ k, lnAt s k = prt L k) := Lib.hid (fun k => by unfold lnAt; rw [hL])
  have HSZ : Hid (∀ k, (prt L k).size ≤ s.size) := Lib.hid (fun k => by rw [← HAT.out]; exact lnAt_size s k)
  rw [hL] at HSP hn
  obtain ⟨N, hNN⟩ : ∃ N, nLn s = N := ⟨_, rfl⟩
  rw [hNN] at hn hN3 hNB
  have HLN := Lib.hid hn
  have hck : ckL s = prt L (N - 1) := by rw [← HAT.out, ← hNN]; rfl
  rw [hck] at hcs
  rw [← hn] at HSP
  have e1 : (w.alloc (.cells zfrm.cells 147)).heap.size = w.heap.size + 1 := Array.size_push _
  have HL0 := Lib.hid (fun k h => str_cell (W := (w.alloc (.cells zfrm.cells 147)).alloc (.cells (L.map Value.string).toArray 9)) (g := (w.alloc (.cells zfrm.cells 147)).heap.size) (l := L) (heap_alloc_new _ _) k h)
  have HLL0 := Lib.hid (heap_alloc_new (w.alloc (.cells zfrm.cells 147)) (.cells (L.map Value.string).toArray 9))
  rw [e1] at HL0 HLL0
  have cl := HL0.out (N - 1) (by omega)
  clear hn
  go_enter Tryz.func104, Tryz.ntmps104
  go_wp2_with fail
  refine (HCN.out _ (HKW.out.below (bx _ _))).mono ?_
  rintro e w1 ⟨rfl, rfl⟩
  go_wp2_with fail
  refine (HSX.out _).mono ?_
  rintro e w1 ⟨rfl, rfl⟩
  go_wp2_with fail
  refine (HSP.out _ (HKW.out.below (bx _ _))).mono ?_
  rintro e w1 ⟨rfl, rfl⟩
  go_wp2_with fail
  have hbs : (prt L (N - 1)).size + 1 ≤ s.size := hcs
  obtain ⟨lc, hlcq⟩ : ∃ lc, prt L (N - 1) = lc := ⟨_, rfl⟩
  rw [hlcq] at hck cl hbs hcs
  have hlcq := Lib.hid hlcq
  obtain ⟨M, hM⟩ : ∃ M : Nat, (M : Int) = (N : Int) - 1 := ⟨N - 1, by omega⟩
  rw [← hM]
  have hMN : N - 1 = M := by omega
  rw [hMN] at cl
  have i0 : (0 : Int) ≤ (M : Int) := by omega
  have i1 : (M : Int) < (N : Int) := by omega
  have i3 : (1 : Int) ≤ (M : Int) - 1 := by omega
  have i4 : (M : Int) - 1 ≤ (N : Int) := by omega
  have i5 : (0 : Int) ≤ (s.size : Int) - 1 - (lc.size : Int) := by omega
  have i6 : (s.size : Int) - 1 - (lc.size : Int) ≤ (s.size : Int) := by omega
  have hN1 : ¬ N = 1 := by omega
  have hs1 : ∀ W, (Instr.slice 22 (.slice (some ⟨w.heap.size + 1, 0, none⟩) N N) (some (.int .i64 1)) (some (.int .i64 ((M : Int) - 1))) none).run Tryz.prog W = .ok (.slice (some ⟨w.heap.size + 1, 1, none⟩) (M - 2) (N - 1)) W := fun W => by
    rw [run_slice_lh W 22 _ N N Tryz.underlying22 .i64 .i64 1 ((M : Int) - 1) (by omega) (by omega) (by omega)]
    have e : ((M : Int) - 1).toNat - 1 = M - 2 := by omega
    have e2 : Program.elem Tryz.prog 22 = 9 := by kernel_rfl
    rw [e2, Tryz.sizeOf9]
    simp only [Result.andThen, sliced, Int.toNat_one, if_neg hN1, e]
    rfl
  have hs2 : ∀ W, (Instr.slice 9 (.string s) none (some (.int .i64 ((s.size : Int) - 1 - (lc.size : Int)))) none).run Tryz.prog W = .ok (.string (s.extract 0 (s.size - 1 - lc.size))) W := fun W => by
    rw [run_slice_string_h W 9 s Tryz.underlying9 .i64 _ (by omega) (by omega)]
    rw [show ((s.size : Int) - 1 - (lc.size : Int)).toNat = s.size - 1 - lc.size by omega]
  clear i3 i4 i5 i6 hN1
  have HM := Lib.hid (And.intro hM hMN)
  clear hM hMN
  have cl2 := cell_later (bx _ (.cells zfrm.cells 147)) cl
  unfold zfrm Frm.cells at cl cl2
  go_region
  have HD0 : Hid (DvS L w (w.heap.size + 1) (w.heap.size + 1 + 1) ⟨⟨#[]⟩, ⟨#[]⟩, 0, some ⟨w.heap.size + 1, 1, none⟩, M - 2, N - 1, fun _ => 0, ⟨#[]⟩, s.extract 0 (s.size - 1 - lc.size)⟩ ((((w.alloc (.cells #[.string ⟨#[]⟩, .string ⟨#[]⟩, .int .i64 0, .slice none 0 0, .int .i64 0, .int .i64 0, .int .i64 0, .int .i64 0, .string ⟨#[]⟩, .string ⟨#[]⟩] 147)).alloc (.cells (L.map Value.string).toArray 9)).alloc (.cells #[.string ⟨#[]⟩, .string ⟨#[]⟩, .int .i64 0, .slice (some ⟨w.heap.size + 1, 1, none⟩) (M - 2) (N - 1), .int .i64 0, .int .i64 0, .int .i64 0, .int .i64 0, .string ⟨#[]⟩, .string (s.extract 0 (s.size - 1 - lc.size))] 147)).drew)) := Lib.hid (by
    have e2 : ∀ X, ((w.alloc (.cells zfrm.cells 147)).alloc X).heap.size = w.heap.size + 1 + 1 := fun X => by rw [show ((w.alloc (.cells zfrm.cells 147)).alloc X).heap.size = (w.alloc (.cells zfrm.cells 147)).heap.size + 1 from Array.size_push _, e1]
    refine ⟨blk_later HZ.out (((bx _ _).alloc (bx _ _).size _).drew), blk_later HLL0.out ((bx _ _).drew), ?_, ((((bx w _).alloc (bx w _).size _).alloc ((bx w _).alloc (bx w _).size _).size _).drew), by omega, by omega⟩
    rw [← e2]
    exact heap_alloc_new ((w.alloc (.cells zfrm.cells 147)).alloc (.cells (L.map Value.string).toArray 9)) _)
  obtain ⟨W, hW⟩ : ∃ W, ((((w.alloc (.cells #[.string ⟨#[]⟩, .string ⟨#[]⟩, .int .i64 0, .slice none 0 0, .int .i64 0, .int .i64 0, .int .i64 0, .int .i64 0, .string ⟨#[]⟩, .string ⟨#[]⟩] 147)).alloc (.cells (L.map Value.string).toArray 9)).alloc (.cells #[.string ⟨#[]⟩, .string ⟨#[]⟩, .int .i64 0, .slice (some ⟨w.heap.size + 1, 1, none⟩) (M - 2) (N - 1), .int .i64 0, .int .i64 0, .int .i64 0, .int .i64 0, .string ⟨#[]⟩, .string (s.extract 0 (s.size - 1 - lc.size))] 147)).drew) = W := ⟨_, rfl⟩
  rw [hW] at HD0 ⊢
  clear hW hs1 hs2 cl cl2 HZ HL0 HLL0 HCN HSX HSP e1 hsz1 hbs hcs
  generalize w.heap.size + 1 + 1 = FB at *
  generalize w.heap.size + 1 = G at *
  have HCR : Hid (Lib.hasPrefix lc.data.toList [67, 124] = true → isCk (lc.extract 2 lc.size) = true → CkF s) := Lib.hid (fun a b => by unfold CkF ckD; rw [hck]; exact ⟨a, b⟩)
  have HCR2 : Hid (CkF s → Lib.hasPrefix lc.data.toList [67, 124] = true ∧ isCk (lc.extract 2 lc.size) = true) := Lib.hid (fun h => by unfold CkF ckD at h; rw [hck] at h; exact h)
  have HCKV : Hid (ckD s = lc.extract 2 lc.size ∧ cov s = s.extract 0 (s.size - 1 - lc.size)) := Lib.hid (by unfold ckD cov; rw [hck]; exact ⟨rfl, rfl⟩)
  have HLCS : Hid (lc.size ≤ maxLen) := Lib.hid (by rw [← hck]; have := lnAt_size s (nLn s - 1); unfold ckL; unfold maxLen; omega)
  have HLCM : Hid (prt L M = lc) := Lib.hid (by rw [← HM.out.2]; exact hlcq.out)
  clear hck hlcq
  -- the header
  have c0 := str_cell HD0.out.l 0 (by have := HLN.out; omega)
  have HSB := Lib.hid (fun k W hW => split_any (prt L k) W hW (Nat.le_trans (HSZ.out k) hs))
  have HSBZ := Lib.hid (fun k j => Nat.le_trans (prt_size (prt L k) j) (Nat.le_trans (HSZ.out k) hs))
  unfold SplPost at HSB
  have HHD : Hid (∀ j, hdP s j = prt (cutS (prt L 0)) j) := Lib.hid (fun j => by unfold hdP; rw [HAT.out])
  have HHF : Hid (HdF s ↔ (cutS (prt L 0)).length = 4 ∧ prt (cutS (prt L 0)) 0 = ⟨#[72]⟩ ∧ numOK (prt (cutS (prt L 0)) 3) = true) := Lib.hid (by unfold HdF; rw [HAT.out, HHD.out, HHD.out])
  have HTD : Hid (∀ j, trP s j = prt (cutS (prt L (M - 1))) j) := Lib.hid (fun j => by unfold trP; rw [HAT.out, hNN, show N - 2 = M - 1 by have := HM.out; omega])
  have HTF : Hid (TrF s ↔ (cutS (prt L (M - 1))).length = 5 ∧ prt (cutS (prt L (M - 1))) 0 = ⟨#[84]⟩ ∧ ∀ j, j < 4 → numOK (prt (cutS (prt L (M - 1))) (j + 1)) = true) := Lib.hid (by unfold TrF; simp only [HTD.out]; rw [HAT.out, hNN, show N - 2 = M - 1 by have := HM.out; omega])
  have HSB0 := Lib.hid (HSB.out 0)
  have HSZ0 := Lib.hid (HSBZ.out 0)
  have HSBT := Lib.hid (HSB.out (M - 1))
  have HSZT := Lib.hid (HSBZ.out (M - 1))
  clear HSB HSBZ
  generalize cutS (prt L 0) = hp at *
  generalize cutS (prt L (M - 1)) = tp at *
  go_wp2_with fail
  refine (HSB0.out W (HKW.out.below HD0.out.be)).mono ?_
  rintro e w1 ⟨rfl, rfl⟩
  have HD1 := Lib.hid (HD0.out.below (bx W (.cells (hp.map Value.string).toArray 9)))
  have HHB := Lib.hid (heap_alloc_new W (.cells (hp.map Value.string).toArray 9))
  clear c0 HD0 HSB0
  generalize W.alloc (.cells (hp.map Value.string).toArray 9) = W1 at *
  generalize W.heap.size = HBk at *
  have HA := Lib.hid (fun j h => str_cell HHB.out j h)
  by_cases h4 : hp.length = 4
  case neg =>
    have z : ((hp.length : Int) != 4) = true := by simp; omega
    have hE := Lib.hid (HE2.out (fun h => h4 ((HHF.out.1 h.1).1)))
    clear h4
    go_wp2_with (refine wpList_store_row rfl 147 _ _ rfl w.heap.size zfrm.cells rfl rfl 147 _ HD1.out.k (info147 _) rfl (frm_one _) ?_)
    refine bodyPost_ret (v := .tuple #[zfrm.val, .int .i64 2]) ?_ rfl (div_fail hE.out HD1.out.be)
    exact results_row_tmp (show Tryz.f104.results = #[.cell 2 147, .tmp 3] by kernel_rfl) _ _ w.heap.size 147 zfrm.cells (0, 0) _ _ rfl rfl (setRow_heap _ _ _ _ _ _ HD1.out.k) Tryz.underlying147 rfl (info147 _)
  have a0 := HA.out 0 (by omega)
  have z : ((hp.length : Int) != 4) = false := by simp; omega
  by_cases hH : prt hp 0 = ⟨#[72]⟩
  case neg =>
    have hE := Lib.hid (HE2.out (fun h => hH ((HHF.out.1 h.1).2.1)))
    obtain ⟨q0, n0⟩ := lit_ne _ [72] hH
    clear hH
    generalize prt hp 0 = x0 at *
    go_wp2_with (refine wpList_store_row rfl 147 _ _ rfl w.heap.size zfrm.cells rfl rfl 147 _ HD1.out.k (info147 _) rfl (frm_one _) ?_)
    refine bodyPost_ret (v := .tuple #[zfrm.val, .int .i64 2]) ?_ rfl (div_fail hE.out HD1.out.be)
    exact results_row_tmp (show Tryz.f104.results = #[.cell 2 147, .tmp 3] by kernel_rfl) _ _ w.heap.size 147 zfrm.cells (0, 0) _ _ rfl rfl (setRow_heap _ _ _ _ _ _ HD1.out.k) Tryz.underlying147 rfl (info147 _)
  have a3 := HA.out 3 (by omega)
  have HH0 := Lib.hid hH
  have HH4 := Lib.hid h4
  have z4 : (3 : Int) < (hp.length : Int) := by omega
  rw [hH] at a0
  clear hH
  have HNM := Lib.hid (fun W hW => bnum_any (prt hp 3) W hW (HSZ0.out 3))
  unfold NumPost at HNM
  go_wp2_with fail
  refine (HNM.out W1 (HKW.out.below HD1.out.be)).mono ?_
  rintro e w2 ⟨rfl, hb⟩
  have HD2 := Lib.hid (HD1.out.below hb)
  have HH2 := Lib.hid (blk_later HHB.out hb)
  clear hb a0 a3 HHB HD1 HNM HA
  have HA := Lib.hid (fun j h => str_cell HH2.out j h)
  cases hq : numOK (prt hp 3) with
  | false =>
    have hE := Lib.hid (HE2.out (fun h => by have := (HHF.out.1 h.1).2.2; rw [hq] at this; exact absurd this (by decide)))
    go_wp2_with (refine wpList_store_row rfl 147 _ _ rfl w.heap.size zfrm.cells rfl rfl 147 _ HD2.out.k (info147 _) rfl (frm_one _) ?_)
    refine bodyPost_ret (v := .tuple #[zfrm.val, .int .i64 2]) ?_ rfl (div_fail hE.out HD2.out.be)
    exact results_row_tmp (show Tryz.f104.results = #[.cell 2 147, .tmp 3] by kernel_rfl) _ _ w.heap.size 147 zfrm.cells (0, 0) _ _ rfl rfl (setRow_heap _ _ _ _ _ _ HD2.out.k) Tryz.underlying147 rfl (info147 _)
  | true =>
  have HHDF : Hid (HdF s) := Lib.hid (HHF.out.2 ⟨HH4.out, HH0.out, hq⟩)
  have b1 := HA.out 1 (by omega)
  have b2 := HA.out 2 (by omega)
  obtain ⟨f0, g0⟩ := HD2.out.cellF 0
  obtain ⟨f1, g1⟩ := HD2.out.cellF 1
  obtain ⟨f2, g2⟩ := HD2.out.cellF 2
  unfold Frm.cells at f0 f1 f2
  simp at f0 f1 f2
  have HD3 : Hid (DvS L w G FB ⟨prt hp 1, prt hp 2, numV (prt hp 3), some ⟨G, 1, none⟩, M - 2, N - 1, fun _ => 0, ⟨#[]⟩, s.extract 0 (s.size - 1 - lc.size)⟩ ((((w2.setCell ⟨FB, 0, none⟩ (.string (prt hp 1))).setCell ⟨FB, 1, none⟩ (.string (prt hp 2))).setCell ⟨FB, 2, none⟩ (.int .i64 (numV (prt hp 3)))).drew)) := Lib.hid
    ((((HD2.out.set 0 (.string (prt hp 1)) (F' := ⟨prt hp 1, ⟨#[]⟩, 0, some ⟨G, 1, none⟩, M - 2, N - 1, fun _ => 0, ⟨#[]⟩, s.extract 0 (s.size - 1 - lc.size)⟩) rfl).set 1 (.string (prt hp 2)) (F' := ⟨prt hp 1, prt hp 2, 0, some ⟨G, 1, none⟩, M - 2, N - 1, fun _ => 0, ⟨#[]⟩, s.extract 0 (s.size - 1 - lc.size)⟩) rfl).set 2 (.int .i64 (numV (prt hp 3))) (F' := ⟨prt hp 1, prt hp 2, numV (prt hp 3), some ⟨G, 1, none⟩, M - 2, N - 1, fun _ => 0, ⟨#[]⟩, s.extract 0 (s.size - 1 - lc.size)⟩) rfl).below ((Below.refl _ _).drew))
  have HX1 : Hid (prt hp 1 = hdP s 1 ∧ prt hp 2 = hdP s 2 ∧ numV (prt hp 3) = numV (hdP s 3)) := Lib.hid (by rw [HHD.out, HHD.out, HHD.out]; exact ⟨rfl, rfl, rfl⟩)
  generalize prt hp 1 = x1 at *
  generalize prt hp 2 = x2 at *
  generalize numV (prt hp 3) = x3 at *
  go_wp2_with fail
  go_region
  obtain ⟨W3, hW⟩ : ∃ W, ((((w2.setCell ⟨FB, 0, none⟩ (.string x1)).setCell ⟨FB, 1, none⟩ (.string x2)).setCell ⟨FB, 2, none⟩ (.int .i64 x3)).drew) = W := ⟨_, rfl⟩
  rw [hW] at HD3 ⊢
  clear hW f0 f1 f2 g0 g1 g2 b1 b2 HA HH2 HD2 hq
  -- the check line
  have cl := str_cell HD3.out.l M (by have := HLN.out; have := HM.out; omega)
  have HLC2 : Hid (prt L M = lc) := Lib.hid HLCM.out
  rw [HLC2.out] at cl
  have HCP := Lib.hid (cutp_any lc W3 HLCS.out)
  unfold CpPost at HCP
  go_wp2_with fail
  refine HCP.out.mono ?_
  rintro e w4 (⟨hpf, rfl, rfl⟩ | ⟨hpf, rfl, rfl⟩)
  case inr =>
    have hE := Lib.hid (HE2.out (fun h => by have := (HCR2.out h.2.1).1; rw [hpf] at this; exact absurd this (by decide)))
    clear hpf
    go_wp2_with (refine wpList_store_row rfl 147 _ _ rfl w.heap.size zfrm.cells rfl rfl 147 _ HD3.out.k (info147 _) rfl (frm_one _) ?_)
    refine bodyPost_ret (v := .tuple #[zfrm.val, .int .i64 2]) ?_ rfl (div_fail hE.out HD3.out.be)
    exact results_row_tmp (show Tryz.f104.results = #[.cell 2 147, .tmp 3] by kernel_rfl) _ _ w.heap.size 147 zfrm.cells (0, 0) _ _ rfl rfl (setRow_heap _ _ _ _ _ _ HD3.out.k) Tryz.underlying147 rfl (info147 _)
  have HCR3 := Lib.hid (HCR.out hpf)
  have HIC := Lib.hid (fun W => isck_any (lc.extract 2 lc.size) W (by have := HLCS.out; rw [ByteArray.size_extract]; omega))
  clear hpf HCR cl
  cases hic : isCk (lc.extract 2 lc.size) with
  | false =>
    have hE := Lib.hid (HE2.out (fun h => by have := (HCR2.out h.2.1).2; rw [hic] at this; exact absurd this (by decide)))
    rw [hic] at HIC
    go_wp2_with fail
    refine (HIC.out _).mono ?_
    rintro e w5 ⟨rfl, rfl⟩
    go_wp2_with (refine wpList_store_row rfl 147 _ _ rfl w.heap.size zfrm.cells rfl rfl 147 _ HD3.out.k (info147 _) rfl (frm_one _) ?_)
    refine bodyPost_ret (v := .tuple #[zfrm.val, .int .i64 2]) ?_ rfl (div_fail hE.out HD3.out.be)
    exact results_row_tmp (show Tryz.f104.results = #[.cell 2 147, .tmp 3] by kernel_rfl) _ _ w.heap.size 147 zfrm.cells (0, 0) _ _ rfl rfl (setRow_heap _ _ _ _ _ _ HD3.out.k) Tryz.underlying147 rfl (info147 _)
  | true =>
  have HCKF := Lib.hid (HCR3.out hic)
  rw [hic] at HIC
  obtain ⟨f8, g8⟩ := HD3.out.cellF 8
  unfold Frm.cells at f8
  simp at f8
  have HD4 := Lib.hid (HD3.out.set 8 (.string (lc.extract 2 lc.size)) (F' := ⟨x1, x2, x3, some ⟨G, 1, none⟩, M - 2, N - 1, fun _ => 0, lc.extract 2 lc.size, s.extract 0 (s.size - 1 - lc.size)⟩) rfl)
  have ct := str_cell HD4.out.l (M - 1) (by have := HLN.out; have := HM.out; omega)
  have j0 : (0 : Int) ≤ (M : Int) - 1 := by have := HM.out; omega
  have j1 : (M : Int) - 1 < (N : Int) := by have := HM.out; omega
  clear hic HCR3 HCR2
  generalize lc.extract 2 lc.size = ckd at *
  go_wp2_with fail
  refine (HIC.out _).mono ?_
  rintro e w5 ⟨rfl, rfl⟩
  go_wp2_with fail
  refine (HSBT.out _ (HKW.out.below HD4.out.be)).mono ?_
  rintro e w6 ⟨rfl, rfl⟩
  have HD5 := Lib.hid (HD4.out.below (bx _ (.cells (tp.map Value.string).toArray 9)))
  have HTB := Lib.hid (heap_alloc_new (W3.setCell ⟨FB, 8, none⟩ (.string ckd)) (.cells (tp.map Value.string).toArray 9))
  have HTN : Hid ((W3.setCell ⟨FB, 8, none⟩ (.string ckd)).heap.size ≠ FB) := Lib.hid (by have := (Array.getElem?_eq_some_iff.1 HD4.out.f).1; omega)
  clear ct f8 g8 HD3 HD4 HSBT
  generalize (W3.setCell ⟨FB, 8, none⟩ (.string ckd)).alloc (.cells (tp.map Value.string).toArray 9) = W5 at *
  generalize (W3.setCell ⟨FB, 8, none⟩ (.string ckd)).heap.size = TBk at *
  by_cases h5 : tp.length = 5
  case neg =>
    have z : ((tp.length : Int) != 5) = true := by simp; omega
    have hE := Lib.hid (HE2.out (fun h => h5 ((HTF.out.1 h.2.2.1).1)))
    clear h5
    go_wp2_with (refine wpList_store_row rfl 147 _ _ rfl w.heap.size zfrm.cells rfl rfl 147 _ HD5.out.k (info147 _) rfl (frm_one _) ?_)
    refine bodyPost_ret (v := .tuple #[zfrm.val, .int .i64 2]) ?_ rfl (div_fail hE.out HD5.out.be)
    exact results_row_tmp (show Tryz.f104.results = #[.cell 2 147, .tmp 3] by kernel_rfl) _ _ w.heap.size 147 zfrm.cells (0, 0) _ _ rfl rfl (setRow_heap _ _ _ _ _ _ HD5.out.k) Tryz.underlying147 rfl (info147 _)
  have a0 := str_cell HTB.out 0 (by omega)
  by_cases hT : prt tp 0 = ⟨#[84]⟩
  case neg =>
    have hE := Lib.hid (HE2.out (fun h => hT ((HTF.out.1 h.2.2.1).2.1)))
    obtain ⟨q0, n0⟩ := lit_ne _ [84] hT
    clear hT
    generalize prt tp 0 = x0 at *
    go_wp2_with (refine wpList_store_row rfl 147 _ _ rfl w.heap.size zfrm.cells rfl rfl 147 _ HD5.out.k (info147 _) rfl (frm_one _) ?_)
    refine bodyPost_ret (v := .tuple #[zfrm.val, .int .i64 2]) ?_ rfl (div_fail hE.out HD5.out.be)
    exact results_row_tmp (show Tryz.f104.results = #[.cell 2 147, .tmp 3] by kernel_rfl) _ _ w.heap.size 147 zfrm.cells (0, 0) _ _ rfl rfl (setRow_heap _ _ _ _ _ _ HD5.out.k) Tryz.underlying147 rfl (info147 _)
  have HT0 := Lib.hid hT
  have HT5 := Lib.hid h5
  rw [hT] at a0
  clear hT
  have HNM := Lib.hid (fun k W hW => bnum_any (prt tp k) W hW (HSZT.out k))
  unfold NumPost at HNM
  have HD6 : Hid (DvS L w G FB ⟨x1, x2, x3, some ⟨G, 1, none⟩, M - 2, N - 1, trF tp 0, ckd, s.extract 0 (s.size - 1 - lc.size)⟩ W5) := Lib.hid HD5.out
  go_wp2_with fail
  clear a0 HD5
  go_loopw [118] (fun i wr => ∃ k : Nat, k ≤ 4 ∧ i = .int .i64 k ∧ Hid (DvS L w G FB ⟨x1, x2, x3, some ⟨G, 1, none⟩, M - 2, N - 1, trF tp k, ckd, s.extract 0 (s.size - 1 - lc.size)⟩ wr ∧ wr.heap[TBk]? = some (.cells (tp.map Value.string).toArray 9) ∧ TBk ≠ FB ∧ ∀ j, j < k → numOK (prt tp (j + 1)) = true)) (fun i _ => 4 - (intOf i).toNat)
  case atStart => exact ⟨0, Nat.zero_le _, rfl, Lib.hid ⟨HD6.out, HTB.out, HTN.out, fun j hj => absurd hj (Nat.not_lt_zero _)⟩⟩
  case round =>
    clear HD6 HTB
    obtain ⟨k, hk, rfl, HW⟩ := hrel
    by_cases hlt : k < 4
    · have kI : (k : Int) < 4 := by omega
      have k0 : (0 : Int) ≤ (k : Int) := by omega
      have k5 : (k : Int) + 1 < 5 := by omega
      have k6 : (0 : Int) ≤ (k : Int) + 1 := by omega
      have ak := str_cell HW.out.2.1 (k + 1) (by have := HT5.out; omega)
      go_wp2_with fail
      refine (HNM.out (k + 1) wr (HKW.out.below HW.out.1.be)).mono ?_
      rintro e w7 ⟨rfl, hb⟩
      have HD7 := Lib.hid (HW.out.1.below hb)
      have HB7 := Lib.hid (blk_later HW.out.2.1 hb)
      clear hb ak
      cases hq : numOK (prt tp (k + 1)) with
      | false =>
        have hE := Lib.hid (HE2.out (fun h => by have := (HTF.out.1 h.2.2.1).2.2 k hlt; rw [hq] at this; exact absurd this (by decide)))
        go_wp2_with (refine wpList_store_row rfl 147 _ _ rfl w.heap.size zfrm.cells rfl rfl 147 _ HD7.out.k (info147 _) rfl (frm_one _) ?_)
        refine bodyPost_ret (v := .tuple #[zfrm.val, .int .i64 2]) ?_ rfl (div_fail hE.out HD7.out.be)
        exact results_row_tmp (show Tryz.f104.results = #[.cell 2 147, .tmp 3] by kernel_rfl) _ _ w.heap.size 147 zfrm.cells (0, 0) _ _ rfl rfl (setRow_heap _ _ _ _ _ _ HD7.out.k) Tryz.underlying147 rfl (info147 _)
      | true =>
        have HD8 : Hid (DvS L w G FB ⟨x1, x2, x3, some ⟨G, 1, none⟩, M - 2, N - 1, trF tp (k + 1), ckd, s.extract 0 (s.size - 1 - lc.size)⟩ (w7.setCell ⟨FB, 4 + k, none⟩ (.int .i64 (numV (prt tp (k + 1)))))) := Lib.hid (HD7.out.set (4 + k) _ (set_trF ⟨x1, x2, x3, some ⟨G, 1, none⟩, M - 2, N - 1, trF tp k, ckd, s.extract 0 (s.size - 1 - lc.size)⟩ tp k hlt))
        have HB8 : Hid ((w7.setCell ⟨FB, 4 + k, none⟩ (.int .i64 (numV (prt tp (k + 1))))).heap[TBk]? = some (.cells (tp.map Value.string).toArray 9)) := Lib.hid ((Below.heap_setCell _ _ _ _ (fun e => HW.out.2.2.1 e)).trans HB7.out)
        have HAL : Hid (∀ j, j < k + 1 → numOK (prt tp (j + 1)) = true) := Lib.hid (fun j hj => by
          rcases Nat.lt_or_ge j k with c | c
          · exact HW.out.2.2.2 j c
          · obtain rfl : j = k := by omega
            exact hq)
        have g4 := (HD7.out.cellF (4 + k)).2
        have f4 : w7.cell? ⟨FB, 4 + k, none⟩ = some (.int .i64 (trF tp k k)) := (HD7.out.cellF (4 + k)).1.trans (by
          match k, hlt with
          | 0, _ => rfl
          | 1, _ => rfl
          | 2, _ => rfl
          | 3, _ => rfl)
        clear hq
        go_wp2_with fail
        go_roundw
        case rel => exact ⟨k + 1, by omega, by go_num, Lib.hid ⟨HD8.out, HB8.out, HW.out.2.2.1, HAL.out⟩⟩
        case measure => simp [intOf]; omega
    · obtain rfl : k = 4 := by omega
      have HTRF := Lib.hid (HTF.out.2 ⟨HT5.out, HT0.out, HW.out.2.2.2⟩)
      obtain ⟨f3, g3⟩ := HW.out.1.cellF 3
      unfold Frm.cells at f3
      simp at f3
      have HX := Lib.hid HW.out.1
      have HFN : Hid (Frm.val ⟨x1, x2, x3, some ⟨G, 1, none⟩, M - 2, N - 1, trF tp 4, ckd, s.extract 0 (s.size - 1 - lc.size)⟩ = (frmOf s G (N - 1)).val) := Lib.hid (by
        unfold frmOf Frm.val Frm.cells nRc
        simp only [HTD.out]
        rw [HCKV.out.1, HCKV.out.2, HX1.out.1, HX1.out.2.1, HX1.out.2.2, hNN, show N - 3 = M - 2 by have := HM.out; omega]
        rfl)
      have HRL : Hid (∀ k, rcL s k = prt L (1 + k)) := Lib.hid (fun k => by unfold rcL; rw [HAT.out])
      have HNR : Hid (nRc s = M - 2) := Lib.hid (by unfold nRc; rw [hNN]; have := HM.out; omega)
      have HPF := Lib.hid (fun x W => Tryz.strings_HasPrefix x ⟨#[82, 124]⟩ W)
      rw [show (⟨#[82, 124]⟩ : ByteArray).data.toList = [82, 124] from rfl] at HPF
      clear HW HNM HCKV HX1 HTF HTD HHF HHD
      generalize trF tp 4 = TR at *
      go_wp2_with fail
      clear f3 g3
      go_loop [16, 141] (fun ln i => ∃ k : Nat, k ≤ M - 2 ∧ i = .int .i64 k ∧ Hid (∀ j, j < k → Lib.hasPrefix (prt L (1 + j)).data.toList [82, 124] = true)) (fun _ i => (M - 2) - (intOf i).toNat)
      case atStart => exact ⟨0, Nat.zero_le _, rfl, Lib.hid (fun j hj => absurd hj (Nat.not_lt_zero _))⟩
      case round =>
        obtain ⟨k, hk, rfl, HAL⟩ := hrel
        by_cases hlt : k < M - 2
        · have kI : (k : Int) < ((M - 2 : Nat) : Int) := by omega
          have k0 : (0 : Int) ≤ (k : Int) := by omega
          have ck := str_cell HX.out.l (1 + k) (by have := HLN.out; have := HM.out; omega)
          generalize hMM : M - 2 = MM at *
          cases hq : Lib.hasPrefix (prt L (1 + k)).data.toList [82, 124] with
          | false =>
            have hE := Lib.hid (HE2.out (fun h => by have := h.2.2.2 k (by rw [HNR.out]; exact hlt); rw [HRL.out, hq] at this; exact absurd this (by decide)))
            have HPK := Lib.hid (HPF.out (prt L (1 + k)) wr)
            rw [hq] at HPK
            go_wp2_with fail
            refine HPK.out.mono ?_
            rintro e w7 ⟨rfl, rfl⟩
            go_wp2_with (refine wpList_store_row rfl 147 _ _ rfl w.heap.size zfrm.cells rfl rfl 147 _ HX.out.k (info147 _) rfl (frm_one _) ?_)
            refine bodyPost_ret (v := .tuple #[zfrm.val, .int .i64 2]) ?_ rfl (div_fail hE.out HX.out.be)
            exact results_row_tmp (show Tryz.f104.results = #[.cell 2 147, .tmp 3] by kernel_rfl) _ _ w.heap.size 147 zfrm.cells (0, 0) _ _ rfl rfl (setRow_heap _ _ _ _ _ _ HX.out.k) Tryz.underlying147 rfl (info147 _)
          | true =>
            have HPK := Lib.hid (HPF.out (prt L (1 + k)) wr)
            rw [hq] at HPK
            have HAL2 : Hid (∀ j, j < k + 1 → Lib.hasPrefix (prt L (1 + j)).data.toList [82, 124] = true) := Lib.hid (fun j hj => by
              rcases Nat.lt_or_ge j k with c | c
              · exact HAL.out j c
              · obtain rfl : j = k := by omega
                exact hq)
            clear hq
            go_wp2_with fail
            refine HPK.out.mono ?_
            rintro e w7 ⟨rfl, rfl⟩
            go_wp2_with fail
            refine ⟨⟨trivial, _, _, _, _, _, _, _, _, _, _, _, ⟨k + 1, by omega, ?_, HAL2⟩, rfl⟩, ?_⟩
            · first | rfl | (simp; done) | go_num
            · simp [intOf]; omega
        · obtain rfl : k = M - 2 := by omega
          have HRC : Hid (RcF s) := Lib.hid (fun j hj => by rw [HRL.out]; exact HAL.out j (by rw [← HNR.out]; exact hj))
          have hE := Lib.hid (HE0.out (HFF.out HHDF.out HCKF.out HTRF.out HRC.out))
          go_wp2_with (first | (refine wpList_load_row rfl 147 _ rfl FB rfl 147 _ _ _ HX.out.f Tryz.underlying147 rfl (info147 _) ?_) | (refine wpList_store_row rfl 147 _ _ rfl w.heap.size (Frm.cells ⟨x1, x2, x3, some ⟨G, 1, none⟩, M - 2, N - 1, TR, ckd, s.extract 0 (s.size - 1 - lc.size)⟩) rfl rfl 147 _ HX.out.k (info147 _) rfl (frm_one _) ?_))
          have hrow : IsRow (wr.setRow w.heap.size (Frm.cells ⟨x1, x2, x3, some ⟨G, 1, none⟩, M - 2, N - 1, TR, ckd, s.extract 0 (s.size - 1 - lc.size)⟩)) (some ⟨G, 1, none⟩) ((recLs s).map Value.string) := by
            refine .inr ⟨G, 1, rfl, fun j v hj => ?_⟩
            obtain ⟨q1, rfl⟩ := recLs_at hj
            rw [HRL.out]
            exact str_cell ((setRow_other _ (by have := HX.out.n1; omega) _).trans HX.out.l) (1 + j) (by have := HLN.out; have := HM.out; have := HNR.out; omega)
          refine bodyPost_ret (v := .tuple #[Frm.val ⟨x1, x2, x3, some ⟨G, 1, none⟩, M - 2, N - 1, TR, ckd, s.extract 0 (s.size - 1 - lc.size)⟩, .int .i64 0]) ?_ rfl ⟨below_setRow HX.out.be (Nat.le_refl _) _, .inr ⟨hE.out, G, N - 1, by rw [HFN.out], by rw [HNR.out]; have := HM.out; omega, hrow⟩⟩
          exact results_row_tmp (show Tryz.f104.results = #[.cell 2 147, .tmp 3] by kernel_rfl) _ _ w.heap.size 147 _ (0, 0) _ _ rfl rfl (setRow_heap _ _ _ _ _ _ HX.out.k) Tryz.underlying147 rfl (info147 _)
end Go.Proofs.YthflmdgfenojcaaGreatDoor
