/- Part of the proof over this seat. -/
import Derived.Outline
import Derived.Test.YthflmdgfenojcaaGreatDoorQDcd
import Derived.Test.YthflmdgfenojcaaGreatDoorQDvw
namespace Go.Proofs.YthflmdgfenojcaaGreatDoor
set_option linter.unusedVariables false
open Go.RowKit Go.Sort Go.Maps
theorem fileE_div {s : ByteArray} (h : divE s ≠ 0) : fileE s = divE s := by unfold fileE; rw [if_pos h]
theorem fileE_exa {s : ByteArray} (h : divE s = 0) : fileE s = exaE s := by unfold fileE; rw [if_neg (by simp [h])]
theorem recLs_prt (s : ByteArray) (k : Nat) (h : k < nRc s) : prt (recLs s) k = rcL s k := by
  unfold prt recLs; rw [List.getD_eq_getElem?_getD, List.getElem?_map, List.getElem?_range h]; rfl
theorem pref2_size {s : ByteArray} (h : Lib.hasPrefix s.data.toList [82, 124] = true) : 2 ≤ s.size := by
  unfold Lib.hasPrefix at h
  obtain ⟨p, hp⟩ := List.isPrefixOf_iff_prefix.1 h
  rw [Lib.size_eq, ← hp]; simp
theorem divE_form {s : ByteArray} (h : divE s = 0) : FormF s := by
  unfold divE at h
  split at h
  · cases h
  · split at h
    · rename_i q; exact q.2
    · cases h
theorem ptD_dec {sd : ByteArray} {rs : List Rec} {x : ByteArray} (h : decE (txtOf x) ≠ 0) : ptD sd rs x = decE (txtOf x) := by unfold ptD; rw [if_pos h]
theorem ptD_aq {sd : ByteArray} {rs : List Rec} {x : ByteArray} (h : decE (txtOf x) = 0) (h2 : (decV (txtOf x)).aq ≠ sd) : ptD sd rs x = 5 := by unfold ptD; rw [if_neg (by simp [h]), if_pos h2]
theorem ptD_id {sd : ByteArray} {rs : List Rec} {x : ByteArray} (h : decE (txtOf x) = 0) (h2 : (decV (txtOf x)).aq = sd) (h3 : (decV (txtOf x)).id ∈ idsOf rs) : ptD sd rs x = 7 := by unfold ptD; rw [if_neg (by simp [h]), if_neg (by simp [h2]), if_pos h3]
theorem ptD_ok {sd : ByteArray} {rs : List Rec} {x : ByteArray} (h : decE (txtOf x) = 0) (h2 : (decV (txtOf x)).aq = sd) (h3 : ¬ (decV (txtOf x)).id ∈ idsOf rs) : ptD sd rs x = 0 := by unfold ptD; rw [if_neg (by simp [h]), if_neg (by simp [h2]), if_neg h3]
theorem decV_idsz {x : ByteArray} (hx : x.size ≤ 1000000) : (decV x).id.size ≤ maxLen := by
  unfold decV
  split
  · have := prt_size x 1
    show (prt (cutS x) 1).size ≤ maxLen
    unfold maxLen; omega
  · exact Nat.zero_le _
theorem bt_one {W : World} {B e n size : Nat} {v : Value} {xs : List Value} {id sd : ByteArray} {dt : Int} (h : W.ownsRow B e size v n xs) : (btC id sd dt v).all (·.oneCell') = true := by
  obtain ⟨A, c, rfl, _, _⟩ := own_form h
  unfold btC; simp [Value.oneCell']
theorem setRow_grown (W : World) (g : Nat) (cs : Array Value) : W.grownBy (W.setRow g cs) (some g) :=
  ⟨rfl, rfl, rfl, by simp [World.setRow], fun k _ hk => setRow_other W (fun e => hk (by rw [e])) cs⟩
theorem bdc_good {s : ByteArray} {w X W : World} {x1 x2 : ByteArray} {x3 : Int} {v8 v9 : Value} {st : RdS} (hE : fileE s = 0) (hV : fileV s = ⟨x1, x2, x3, st.rs⟩) (hB : fileB s = st.bad) (h : DcS X x1 x2 x3 v8 v9 st W) (hX : w.heap.size < X.heap.size) (hb : Below w.heap.size w X) (cs : Array Value) :
    BdcPost s w (.returned (.tuple #[.agg (btC x1 x2 x3 v8), v9, .int .i64 0])) (W.setRow w.heap.size cs) := by
  refine ⟨v8, v9, by rw [hE, hV], ?_, ?_, below_setRow (hb.trans (h.be.mono hb.size)) (Nat.le_refl _) _⟩
  · rw [hV]
    exact own_base (h.o8.kept (setRow_grown W _ cs) (own_far' h.o8 (by omega))) (by omega)
  · rw [hB]
    exact own_base (h.o9.kept (setRow_grown W _ cs) (own_far' h.o9 (by omega))) (by omega)
set_option maxRecDepth 1000000 in
set_option maxHeartbeats 25600000 in
theorem bdc_any (s : ByteArray) (w : World) (hw : BW w) (hs : s.size ≤ 1000000) : Calls Tryz.prog 49 #[.string s] w (BdcPost s w) := by
  have HKW := Lib.hid hw
  have HDV := Lib.hid (fun W hW => div_any s W hW hs)
  unfold DivPost zfrm frmOf Frm.val Frm.cells at HDV
  dsimp only at HDV
  have HZ := Lib.hid (heap_alloc_new w (.cells #[.string ⟨#[]⟩, .string ⟨#[]⟩, .int .i64 0, .slice none 0 0] 61))
  have hBAD : ∀ E W, fileE s = E → E ≠ 0 → Below w.heap.size w W → BdcPost s w (.returned (.tuple #[.agg zbt, .slice none 0 0, .int .i64 E])) W := fun E W hE h0 hb => by
    have := bdc_bad (s := s) (by rw [hE]; exact h0) hb
    rw [hE] at this; exact this
  by_cases hd : divE s = 0
  case neg =>
    have HBAD := Lib.hid (fun W => hBAD (divE s) W (fileE_div hd) hd)
    have hEb : (divE s != 0) = true := by simpa using hd
    have HD := Lib.hid hd
    clear hBAD hd hw
    generalize divE s = E at *
    go_enter Tryz.func49, Tryz.ntmps49
    go_wp2_with fail
    refine (HDV.out _ (HKW.out.below (bx _ _)).1).mono ?_
    rintro e w1 ⟨hb, (⟨hz, rfl⟩ | ⟨hz, -⟩)⟩
    case inr => exact absurd hz HD.out
    have HK := Lib.hid (blk_later (blk_later HZ.out hb) (bx w1 (.cells #[.string ⟨#[]⟩, .string ⟨#[]⟩, .int .i64 0, .slice none 0 0, .int .i64 0, .int .i64 0, .int .i64 0, .int .i64 0, .string ⟨#[]⟩, .string ⟨#[]⟩] 147)))
    have hB1 := ((bx w (.cells #[.string ⟨#[]⟩, .string ⟨#[]⟩, .int .i64 0, .slice none 0 0] 61)).trans (hb.mono (bx w _).size))
    have HB := Lib.hid (hB1.trans ((bx w1 (.cells #[.string ⟨#[]⟩, .string ⟨#[]⟩, .int .i64 0, .slice none 0 0, .int .i64 0, .int .i64 0, .int .i64 0, .int .i64 0, .string ⟨#[]⟩, .string ⟨#[]⟩] 147)).mono hB1.size))
    clear hb hB1 hz
    go_wp2_with (refine wpList_store_row rfl 61 _ _ rfl w.heap.size zbt rfl rfl 61 _ HK.out (info61 ⟨#[]⟩ ⟨#[]⟩ 0 (.slice none 0 0)) rfl zbt_one ?_)
    refine bodyPost_ret (v := .tuple #[.agg zbt, .slice none 0 0, .int .i64 E]) ?_ rfl ?_
    · exact results_row_tmp2 (show Tryz.f49.results = #[.cell 2 61, .tmp 3, .tmp 4] by kernel_rfl) _ _ w.heap.size 61 zbt (0, 0) _ _ _ rfl rfl rfl (setRow_heap _ _ _ _ _ _ HK.out) Tryz.underlying61 rfl (info61 ⟨#[]⟩ ⟨#[]⟩ 0 (.slice none 0 0))
    · exact HBAD.out _ (below_setRow HB.out (Nat.le_refl _) _)
  case pos =>
  have HEX := Lib.hid (fun g c W hW hc hr => exam_any s g c W hW hs hc hr)
  unfold PtPost frmOf Frm.val Frm.cells at HEX
  dsimp only at HEX
  have HFE := Lib.hid (fileE_exa hd)
  have HFM := Lib.hid (divE_form hd)
  have HD := Lib.hid hd
  have HNL := Lib.hid (nRc_le s)
  have hBAD := fun W h => hBAD (exaE s) W (fileE_exa hd) h
  have HHD := Lib.hid (show rdK s (nRc s) = rdK s (nRc s) ∧ ∀ k, rdK s (k + 1) = rdStep (hdP s 2) (rdK s k) k (rcL s k) from ⟨rfl, fun k => rfl⟩)
  have HFV : Hid (exaE s = 0 → fileE s = 0 ∧ fileV s = ⟨hdP s 1, hdP s 2, numV (hdP s 3), (rdK s (nRc s)).rs⟩ ∧ fileB s = (rdK s (nRc s)).bad) := Lib.hid (fun h => by
    have h0 : fileE s = 0 := by rw [fileE_exa hd, h]
    refine ⟨h0, fileV_ok h0, ?_⟩
    unfold fileB; rw [if_pos h0])
  have e1 : trP s (0 + 1) = trP s 1 := rfl
  have e2 : trP s (1 + 1) = trP s 2 := rfl
  have e3 : trP s (2 + 1) = trP s 3 := rfl
  have e4 : trP s (3 + 1) = trP s 4 := rfl
  simp only [e1, e2, e3, e4] at HDV HEX
  clear e1 e2 e3 e4 hw
  generalize numV (trP s 1) = t1 at *
  generalize numV (trP s 2) = t2 at *
  generalize numV (trP s 3) = t3 at *
  generalize numV (trP s 4) = t4 at *
  generalize ckD s = ck at *
  generalize cov s = cv at *
  generalize numV (hdP s 3) = x3 at *
  generalize hdP s 1 = x1 at *
  generalize hdP s 2 = x2 at *
  generalize hE : exaE s = E at *
  have HE0 := Lib.hid hE
  clear hE
  by_cases h0 : E = 0
  case neg =>
    have HBAD := Lib.hid (fun W => hBAD W h0)
    have hEb : (E != 0) = true := by simpa using h0
    clear hBAD h0 hd
    go_enter Tryz.func49, Tryz.ntmps49
    go_wp2_with fail
    refine (HDV.out _ (HKW.out.below (bx _ _)).1).mono ?_
    rintro e w1 ⟨hb, (⟨hz, -⟩ | ⟨hz, g, c, rfl, hc, hr⟩)⟩
    case inl => exact absurd HD.out hz
    have HK := Lib.hid (blk_later (blk_later HZ.out hb) (bx w1 (.cells #[.string x1, .string x2, .int .i64 x3, .slice (some ⟨g, 1, none⟩) (nRc s) c, .int .i64 t1, .int .i64 t2, .int .i64 t3, .int .i64 t4, .string ck, .string cv] 147)))
    have hB1 := ((bx w (.cells #[.string ⟨#[]⟩, .string ⟨#[]⟩, .int .i64 0, .slice none 0 0] 61)).trans (hb.mono (bx w _).size))
    have HB := Lib.hid (hB1.trans ((bx w1 (.cells #[.string x1, .string x2, .int .i64 x3, .slice (some ⟨g, 1, none⟩) (nRc s) c, .int .i64 t1, .int .i64 t2, .int .i64 t3, .int .i64 t4, .string ck, .string cv] 147)).mono hB1.size))
    have HRW := Lib.hid (hr.below (bx w1 (.cells #[.string x1, .string x2, .int .i64 x3, .slice (some ⟨g, 1, none⟩) (nRc s) c, .int .i64 t1, .int .i64 t2, .int .i64 t3, .int .i64 t4, .string ck, .string cv] 147)))
    have HCC := Lib.hid hc
    clear hb hB1 hz hc hr
    go_wp2_with fail
    refine (HEX.out g c _ (HKW.out.below HB.out) HCC.out HRW.out).mono ?_
    rintro e w2 ⟨rfl, hb⟩
    have HK := Lib.hid (blk_later HK.out hb)
    have HB := Lib.hid (HB.out.trans (hb.mono HB.out.size))
    clear hb
    go_wp2_with (refine wpList_store_row rfl 61 _ _ rfl w.heap.size zbt rfl rfl 61 _ HK.out (info61 ⟨#[]⟩ ⟨#[]⟩ 0 (.slice none 0 0)) rfl zbt_one ?_)
    refine bodyPost_ret (v := .tuple #[.agg zbt, .slice none 0 0, .int .i64 E]) ?_ rfl ?_
    · exact results_row_tmp2 (show Tryz.f49.results = #[.cell 2 61, .tmp 3, .tmp 4] by kernel_rfl) _ _ w.heap.size 61 zbt (0, 0) _ _ _ rfl rfl rfl (setRow_heap _ _ _ _ _ _ HK.out) Tryz.underlying61 rfl (info61 ⟨#[]⟩ ⟨#[]⟩ 0 (.slice none 0 0))
    · exact HBAD.out _ (below_setRow HB.out (Nat.le_refl _) _)
  case pos =>
  subst h0
  obtain ⟨i57, hi57, hz0, hz1, hz2⟩ := info_parts mkrec
  obtain ⟨i65, hi65, hy0, hy1, hy2⟩ := info_parts mk65
  have HI := Lib.hid (And.intro hi57 (And.intro hz0 (And.intro hz1 hz2)))
  have HJ := Lib.hid (And.intro hi65 (And.intro hy0 (And.intro hy1 hy2)))
  clear hi57 hz0 hz1 hz2 hi65 hy0 hy1 hy2 hBAD hd
  have HFV0 := Lib.hid (HFV.out rfl)
  clear HFV
  have hmm := @run_makeMap Tryz.prog
  go_enter Tryz.func49, Tryz.ntmps49
  go_wp2_with fail
  refine (HDV.out _ (HKW.out.below (bx _ _)).1).mono ?_
  rintro e w1 ⟨hb, (⟨hz, -⟩ | ⟨hz, g, c, rfl, hc, hr⟩)⟩
  case inl => exact absurd HD.out hz
  have HK := Lib.hid (blk_later (blk_later HZ.out hb) (bx w1 (.cells #[.string x1, .string x2, .int .i64 x3, .slice (some ⟨g, 1, none⟩) (nRc s) c, .int .i64 t1, .int .i64 t2, .int .i64 t3, .int .i64 t4, .string ck, .string cv] 147)))
  have hB1 := ((bx w (.cells #[.string ⟨#[]⟩, .string ⟨#[]⟩, .int .i64 0, .slice none 0 0] 61)).trans (hb.mono (bx w _).size))
  have HB := Lib.hid (hB1.trans ((bx w1 (.cells #[.string x1, .string x2, .int .i64 x3, .slice (some ⟨g, 1, none⟩) (nRc s) c, .int .i64 t1, .int .i64 t2, .int .i64 t3, .int .i64 t4, .string ck, .string cv] 147)).mono hB1.size))
  have HRW := Lib.hid (hr.below (bx w1 (.cells #[.string x1, .string x2, .int .i64 x3, .slice (some ⟨g, 1, none⟩) (nRc s) c, .int .i64 t1, .int .i64 t2, .int .i64 t3, .int .i64 t4, .string ck, .string cv] 147)))
  have HFB := Lib.hid (heap_alloc_new w1 (.cells #[.string x1, .string x2, .int .i64 x3, .slice (some ⟨g, 1, none⟩) (nRc s) c, .int .i64 t1, .int .i64 t2, .int .i64 t3, .int .i64 t4, .string ck, .string cv] 147))
  have HCC := Lib.hid hc
  clear hb hB1 hz hc hr
  go_wp2_with fail
  refine (HEX.out g c _ (HKW.out.below HB.out) HCC.out HRW.out).mono ?_
  rintro e X ⟨rfl, hb⟩
  have HK := Lib.hid (blk_later HK.out hb)
  have HB := Lib.hid (HB.out.trans (hb.mono HB.out.size))
  have HRW := Lib.hid (HRW.out.below hb)
  have HFB := Lib.hid (blk_later HFB.out hb)
  clear hb
  generalize w1.heap.size = FB at *
  have f0 := cell_c HFB.out 0
  have f1 := cell_c HFB.out 1
  have f2 := cell_c HFB.out 2
  simp at f0 f1 f2
  have HFL : Hid (FB < X.heap.size) := Lib.hid (Array.getElem?_eq_some_iff.1 HFB.out).1
  have HS0 := Lib.hid (DcS.start X x1 x2 x3)
  have HXL : Hid (w.heap.size < X.heap.size) := Lib.hid (Array.getElem?_eq_some_iff.1 HK.out).1
  have f3 := cell_later HS0.out.be (show X.cell? ⟨FB, 3, none⟩ = some (.slice (some ⟨g, 1, none⟩) (nRc s) c) from cell_c HFB.out 3)
  go_wp2_with fail
  clear f0 f1 f2 f3 hmm
  go_loopw [9, 41] (fun v9 i wr => ∃ (k : Nat) (v8 : Value), k ≤ nRc s ∧ i = .int .i64 k ∧ Hid (DcS X x1 x2 x3 v8 v9 (rdK s k) wr)) (fun _ i _ => nRc s - (intOf i).toNat)
  case atStart => exact ⟨0, _, Nat.zero_le _, rfl, HS0⟩
  case round =>
    clear HS0
    obtain ⟨k, v8, hk, rfl, HW⟩ := hrel
    by_cases hlt : k < nRc s
    · have hcl : wr.cell? ⟨g, 1 + k, none⟩ = some (.string (rcL s k)) := by
        obtain ⟨b, off, hA, hcell⟩ := row_str HRW.out k (by rw [recLs_len]; exact hlt)
        have h1 : g = b ∧ 1 = off := by injection hA with hA; injection hA with h1 h2; exact ⟨h1, h2⟩
        obtain ⟨rfl, rfl⟩ := h1
        have := hcell k (by rw [recLs_len]; exact hlt)
        rw [recLs_prt s k hlt] at this
        exact cell_later HW.out.be this
      have h2 := pref2_size (HFM.out.2.2.2 k hlt)
      have hsz : (rcL s k).size ≤ 1000000 := Nat.le_trans (lnAt_size s (1 + k)) hs
      have htx : (txtOf (rcL s k)).size ≤ 1000000 := by unfold txtOf; rw [ByteArray.size_extract]; omega
      have HLD := Lib.hid (fun W hW => lid_any (rcL s k) W hW hsz)
      have HDC : Hid (∀ W, KW W → Calls Tryz.prog 77 #[.string ((rcL s k).extract 2 (rcL s k).size)] W (DecPost (txtOf (rcL s k)) W)) := Lib.hid (fun W hW => dec_any (txtOf (rcL s k)) W hW htx)
      have hids := decV_idsz htx
      have HP1 := Lib.hid (fun h => ptD_dec (sd := x2) (rs := (rdK s k).rs) (x := rcL s k) h)
      have HP2 := Lib.hid (fun h h2 => ptD_aq (sd := x2) (rs := (rdK s k).rs) (x := rcL s k) h h2)
      have HP3 := Lib.hid (fun h h2 h3 => ptD_id (sd := x2) (rs := (rdK s k).rs) (x := rcL s k) h h2 h3)
      have HP4 := Lib.hid (fun h h2 h3 => ptD_ok (sd := x2) (rs := (rdK s k).rs) (x := rcL s k) h h2 h3)
      have HSB := Lib.hid (fun (q : ¬ ptD x2 (rdK s k).rs (rcL s k) = 0) => (HHD.out.2 k).trans (rdStep_no (sd := x2) (x := rcL s k) (st := rdK s k) (i := k) q))
      have HSG := Lib.hid (fun (q : ptD x2 (rdK s k).rs (rcL s k) = 0) => (HHD.out.2 k).trans (rdStep_ok (sd := x2) (x := rcL s k) (st := rdK s k) (i := k) q))
      have hrd := rd_len s k
      have hbl : (rdK s k).bad.length < 1000001 := by have := HNL.out; omega
      have hrl : (rdK s k).rs.length < 1000001 := by have := HNL.out; omega
      have hidl : (idsOf (rdK s k).rs).length < 1000000 := by unfold idsOf; rw [List.length_map]; have := HNL.out; omega
      have HIDL := Lib.hid hidl
      unfold DecPost at HDC
      unfold StrPost at HLD
      clear hrd hidl htx
      generalize lnId (rcL s k) = LI at *
      generalize decV (txtOf (rcL s k)) = R at *
      generalize decE (txtOf (rcL s k)) = E at *
      generalize ptD x2 (rdK s k).rs (rcL s k) = PT at *
      generalize rcL s k = ln at *
      have hkb : k < 1000001 := by have := HNL.out; omega
      obtain ⟨st, hst⟩ : ∃ st, rdK s k = st := ⟨_, rfl⟩
      rw [hst] at HW HP3 HP4 HSB HSG hbl hrl HIDL
      clear hst
      obtain ⟨K, rid, au, aq, is, me, ca, a, cu, d, cg, f⟩ := R
      unfold Rec.val Rec.cells at HDC
      dsimp only at HDC hids HP2 HP3 HP4 HSG
      have kI : (k : Int) < (nRc s : Int) := by omega
      have k0 : (0 : Int) ≤ (k : Int) := by omega
      have HKW1 : Hid (∀ W, Below X.heap.size X W → BW W) := Lib.hid (fun W hb => HKW.out.below (HB.out.trans (hb.mono HB.out.size)))
      have hXl : X.heap.size < wr.heap.size := (Array.getElem?_eq_some_iff.1 HW.out.bb).1
      go_wp2_with fail
      refine (HDC.out wr (HKW1.out wr HW.out.be).1).mono ?_
      rintro e w4 ⟨rfl, hb⟩
      have HW4 := Lib.hid (HW.out.below hb)
      clear hb hcl
      have f1 := cell_later (HW4.out.below (bx w4 (.cells #[.int .i64 K, .string rid, .string au, .string aq, .string is, .string me, .string ca, .int .i64 a, .string cu, .int .i64 d, .int .i64 cg, .bool f] 57))).be (show X.cell? ⟨FB, 1, none⟩ = some (.string x2) from cell_c HFB.out 1)
      have HW5 := Lib.hid (HW4.out.below (bx w4 (.cells #[.int .i64 K, .string rid, .string au, .string aq, .string is, .string me, .string ca, .int .i64 a, .string cu, .int .i64 d, .int .i64 cg, .bool f] 57)))
      have HRB := Lib.hid (heap_alloc_new w4 (.cells #[.int .i64 K, .string rid, .string au, .string aq, .string is, .string me, .string ca, .int .i64 a, .string cu, .int .i64 d, .int .i64 cg, .bool f] 57))
      have hX4 : X.heap.size + 1 < w4.heap.size := HW4.out.ms.lt
      by_cases hE : E = 0
      case neg =>
        have hb1 : (E == 0) = false := by simpa using hE
        have hb2 : (E != 0) = true := by simpa using hE
        have hPT : PT = E := HP1.out hE
        have HST : Hid (rdK s (k + 1) = ⟨st.rs, st.bad ++ [(k, LI, E)]⟩) := Lib.hid (by have := HSB.out (by rw [hPT]; exact hE); rw [hPT] at this; exact this)
        clear hPT hE HP1 HP2 HP3 HP4 HSB HSG
        go_wp2_with fail
        refine (HLD.out _ (HKW1.out _ HW5.out.be).1).mono ?_
        rintro e w6 ⟨rfl, hb⟩
        have HW6 := Lib.hid (HW5.out.below hb)
        have HW7 := Lib.hid (HW6.out.below (bx w6 (.cells #[.int .i64 k, .string LI, .int .i64 E] 65)))
        have hX6 : X.heap.size + 1 < w6.heap.size := HW6.out.ms.lt
        clear hb hX4
        go_wp2_with (at_builtin; refine wpList_append_own _ rfl (.tmp 71) (.tmp 77) _ rfl (X.heap.size + 2) 65 i65 _ 3 32 Tryz.underlying35 HJ.out.1 HJ.out.2.1 HJ.out.2.2.1 HJ.out.2.2.2 rfl (by omega) _ _ _ rfl HW7.out.o9 ⟨w6.heap.size, 0, none⟩ 1 1 [.int .i64 k, .string LI, .int .i64 E] rfl rfl (World.news_of_block (cs := #[.int .i64 k, .string LI, .int .i64 E]) (t := 65) (fr := (0, 0)) (heap_alloc_new w6 _)) (by simp [Value.oneCell']) (by unfold maxLen; omega) (by omega) (by simp; omega) ?_; intro v9 w8 hown hgrow hnil; have HA := Lib.hid hown; have HG := Lib.hid hgrow; clear hown hgrow hnil)
        have HW8 := Lib.hid (HW7.out.bad (k, LI, E) HA.out HG.out)
        rw [← HST.out] at HW8
        refine ⟨⟨k + 1, _, by omega, by go_num, HW8⟩, by simp [intOf]; omega⟩
      case pos =>
      subst hE
      by_cases haq : aq = x2
      case neg =>
        obtain ⟨q0, n0⟩ := str_ne haq
        have hPT : PT = 5 := HP2.out rfl haq
        have HST : Hid (rdK s (k + 1) = ⟨st.rs, st.bad ++ [(k, LI, 5)]⟩) := Lib.hid (by have := HSB.out (by rw [hPT]; decide); rw [hPT] at this; exact this)
        have a3 : (w4.alloc (.cells #[.int .i64 K, .string rid, .string au, .string aq, .string is, .string me, .string ca, .int .i64 a, .string cu, .int .i64 d, .int .i64 cg, .bool f] 57)).cell? ⟨w4.heap.size, 3, none⟩ = some (.string aq) := cell_c HRB.out 3
        clear hPT haq HP1 HP2 HP3 HP4 HSB HSG
        go_wp2_with fail
        refine (HLD.out _ (HKW1.out _ HW5.out.be).1).mono ?_
        rintro e w6 ⟨rfl, hb⟩
        have HW6 := Lib.hid (HW5.out.below hb)
        have HW7 := Lib.hid (HW6.out.below (bx w6 (.cells #[.int .i64 k, .string LI, .int .i64 5] 65)))
        have hX6 : X.heap.size + 1 < w6.heap.size := HW6.out.ms.lt
        clear hb hX4
        go_wp2_with (at_builtin; refine wpList_append_own _ rfl (.tmp 71) (.tmp 77) _ rfl (X.heap.size + 2) 65 i65 _ 3 32 Tryz.underlying35 HJ.out.1 HJ.out.2.1 HJ.out.2.2.1 HJ.out.2.2.2 rfl (by omega) _ _ _ rfl HW7.out.o9 ⟨w6.heap.size, 0, none⟩ 1 1 [.int .i64 k, .string LI, .int .i64 5] rfl rfl (World.news_of_block (cs := #[.int .i64 k, .string LI, .int .i64 5]) (t := 65) (fr := (0, 0)) (heap_alloc_new w6 _)) (by simp [Value.oneCell']) (by unfold maxLen; omega) (by omega) (by simp; omega) ?_; intro v9 w8 hown hgrow hnil; have HA := Lib.hid hown; have HG := Lib.hid hgrow; clear hown hgrow hnil)
        have HW8 := Lib.hid (HW7.out.bad (k, LI, 5) HA.out HG.out)
        rw [← HST.out] at HW8
        refine ⟨⟨k + 1, _, by omega, by go_num, HW8⟩, by simp [intOf]; omega⟩
      case pos =>
      subst haq
      obtain ⟨q0, n0⟩ := str_eq (rfl : aq = aq)
      clear n0
      by_cases hin : rid ∈ idsOf st.rs
      case pos =>
        have hdc := decide_eq_true hin
        have hPT : PT = 7 := HP3.out rfl rfl hin
        have HST : Hid (rdK s (k + 1) = ⟨st.rs, st.bad ++ [(k, LI, 7)]⟩) := Lib.hid (by have := HSB.out (by rw [hPT]; decide); rw [hPT] at this; exact this)
        have a1 : (w4.alloc (.cells #[.int .i64 K, .string rid, .string au, .string aq, .string is, .string me, .string ca, .int .i64 a, .string cu, .int .i64 d, .int .i64 cg, .bool f] 57)).cell? ⟨w4.heap.size, 1, none⟩ = some (.string rid) := cell_c HRB.out 1
        have hlk := HW5.out.ms.look rid hids
        rw [hdc] at hlk
        clear hPT hdc hin HP1 HP2 HP3 HP4 HSB HSG
        go_wp2_with fail
        refine (HLD.out _ (HKW1.out _ HW5.out.be).1).mono ?_
        rintro e w6 ⟨rfl, hb⟩
        have HW6 := Lib.hid (HW5.out.below hb)
        have HW7 := Lib.hid (HW6.out.below (bx w6 (.cells #[.int .i64 k, .string LI, .int .i64 7] 65)))
        have hX6 : X.heap.size + 1 < w6.heap.size := HW6.out.ms.lt
        clear hb hX4
        go_wp2_with (at_builtin; refine wpList_append_own _ rfl (.tmp 71) (.tmp 77) _ rfl (X.heap.size + 2) 65 i65 _ 3 32 Tryz.underlying35 HJ.out.1 HJ.out.2.1 HJ.out.2.2.1 HJ.out.2.2.2 rfl (by omega) _ _ _ rfl HW7.out.o9 ⟨w6.heap.size, 0, none⟩ 1 1 [.int .i64 k, .string LI, .int .i64 7] rfl rfl (World.news_of_block (cs := #[.int .i64 k, .string LI, .int .i64 7]) (t := 65) (fr := (0, 0)) (heap_alloc_new w6 _)) (by simp [Value.oneCell']) (by unfold maxLen; omega) (by omega) (by simp; omega) ?_; intro v9 w8 hown hgrow hnil; have HA := Lib.hid hown; have HG := Lib.hid hgrow; clear hown hgrow hnil)
        have HW8 := Lib.hid (HW7.out.bad (k, LI, 7) HA.out HG.out)
        rw [← HST.out] at HW8
        refine ⟨⟨k + 1, _, by omega, by go_num, HW8⟩, by simp [intOf]; omega⟩
      case neg =>
        have hdc := decide_eq_false hin
        have hPT : PT = 0 := HP4.out rfl rfl hin
        have HST : Hid (rdK s (k + 1) = ⟨st.rs ++ [⟨K, rid, au, aq, is, me, ca, a, cu, d, cg, f⟩], st.bad⟩) := Lib.hid (HSG.out hPT)
        have hlk := HW5.out.ms.look rid hids
        rw [hdc] at hlk
        obtain ⟨w6, hrun, hs2, hg2⟩ := HW5.out.ms.put HIDL.out rid hids
        obtain ⟨n1, n2, n3, n4, n5⟩ := HW5.out.name rid hs2 hg2
        have HN6 : Hid (DcN X x1 aq x3 v8 u9 st rid w6) := Lib.hid ⟨n1, n2, n3, n4, n5⟩
        have HRB6 := Lib.hid (grown_lt (B := 0) hg2 HRB.out (by intro e; injection e with e; omega))
        have b3 : w6.cell? ⟨X.heap.size, 3, none⟩ = some v8 := cell_c n1 3
        have hX6 : X.heap.size + 1 < w6.heap.size := n2.lt
        have HN7 := Lib.hid (HN6.out.below (bx w6 (.cells #[.int .i64 K, .string rid, .string au, .string aq, .string is, .string me, .string ca, .int .i64 a, .string cu, .int .i64 d, .int .i64 cg, .bool f] 57)))
        clear hPT hdc hin HP1 HP2 HP3 HP4 HSB HSG n1 n2 n3 n4 n5 hs2 hg2
        go_wp2_with (first | (refine wpList_load_row rfl 57 _ rfl w4.heap.size rfl 57 _ _ _ HRB6.out Tryz.underlying57 rfl (info25 (⟨K, rid, au, aq, is, me, ca, a, cu, d, cg, f⟩ : Rec)) ?_) | (at_builtin; refine wpList_append_own _ rfl (.tmp 83) (.tmp 85) _ rfl (X.heap.size + 2) 57 i57 _ 12 152 Tryz.underlying34 HI.out.1 HI.out.2.1 HI.out.2.2.1 HI.out.2.2.2 rfl (by omega) _ _ _ rfl HN7.out.o8 ⟨w6.heap.size, 0, none⟩ 1 1 [.int .i64 K, .string rid, .string au, .string aq, .string is, .string me, .string ca, .int .i64 a, .string cu, .int .i64 d, .int .i64 cg, .bool f] rfl rfl (World.news_of_block (cs := #[.int .i64 K, .string rid, .string au, .string aq, .string is, .string me, .string ca, .int .i64 a, .string cu, .int .i64 d, .int .i64 cg, .bool f]) (t := 57) (fr := (0, 0)) (heap_alloc_new w6 _)) (by simp [Value.oneCell']) (by unfold maxLen; omega) (by omega) (by simp; omega) ?_; intro v7 w8 hown hgrow hnil; obtain ⟨A7, c7, rfl, hA7, hA8⟩ := own_form hown; clear hA7 hA8; have HA := Lib.hid hown; have HG := Lib.hid hgrow; have g1 := grown_lt (B := 0) hgrow HN7.out.bb (own_far HN7.out.o8 (by omega)); have d3 := cell_c g1 3; have p3 := cell_f g1 3; clear hown hgrow hnil g1; simp at d3))
        have HW8 := Lib.hid (HN7.out.good ⟨K, rid, au, aq, is, me, ca, a, cu, d, cg, f⟩ rfl HA.out HG.out)
        rw [← HST.out] at HW8
        refine ⟨⟨k + 1, _, by omega, by go_num, HW8⟩, by simp [intOf]; omega⟩
    · obtain rfl : k = nRc s := by omega
      have kI : ¬ ((nRc s : Nat) : Int) < ((nRc s : Nat) : Int) := by omega
      have HK8 := Lib.hid (blk_later HK.out HW.out.be)
      go_wp2_with (first | (refine wpList_load_row rfl 61 _ rfl X.heap.size rfl 61 _ _ _ HW.out.bb Tryz.underlying61 rfl (info61 x1 x2 x3 v8) ?_) | (refine wpList_store_row rfl 61 _ _ rfl w.heap.size (btC x1 x2 x3 v8) rfl rfl 61 _ HK8.out (info61 _ _ _ _) rfl (bt_one HW.out.o8) ?_))
      refine bodyPost_ret (v := .tuple #[.agg (btC x1 x2 x3 v8), u9, .int .i64 0]) ?_ rfl ?_
      · exact results_row_tmp2 (show Tryz.f49.results = #[.cell 2 61, .tmp 3, .tmp 4] by kernel_rfl) _ _ w.heap.size 61 (btC x1 x2 x3 v8) (0, 0) _ _ _ rfl rfl rfl (setRow_heap _ _ _ _ _ _ HK8.out) Tryz.underlying61 rfl (info61 _ _ _ _)
      · exact bdc_good HFV0.out.1 HFV0.out.2.1 HFV0.out.2.2 HW.out HXL.out HB.out _
end Go.Proofs.YthflmdgfenojcaaGreatDoor
