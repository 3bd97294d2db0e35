/- The law BatchRoundTrip, walked. -/
import Derived.Test.YthflmdgfenojcaaGreatDoorLDe
import Derived.Test.YthflmdgfenojcaaGreatDoorOpb
import Derived.Outline
namespace Go.Proofs.YthflmdgfenojcaaGreatDoor
set_option linter.unusedVariables false
open Go.RowKit Go.Sort Go.Maps

theorem decV_szR (x : ByteArray) : szR (decV x) ≤ 7 * x.size := by
  unfold decV
  split
  · have hp := fun j => prt_size x j
    have h1 := hp 1
    have h2 := hp 2
    have h3 := hp 3
    have h4 := hp 4
    have h5 := hp 5
    have h6 := hp 6
    have h8 := hp 8
    show (prt (cutS x) 1).size + (prt (cutS x) 2).size + (prt (cutS x) 3).size + (prt (cutS x) 4).size + (prt (cutS x) 5).size + (prt (cutS x) 6).size + (prt (cutS x) 8).size ≤ 7 * x.size
    omega
  · exact Nat.zero_le _
theorem rd_mem (s : ByteArray) : ∀ k, ∀ r ∈ (rdK s k).rs, szR r ≤ 7 * s.size
  | 0, r, h => by cases h
  | k + 1, r, h => by
    rw [rdK_succ] at h
    by_cases q : ptD (hdP s 2) (rdK s k).rs (rcL s k) = 0
    · rw [rdStep_ok q] at h
      rcases List.mem_append.1 h with h | h
      · exact rd_mem s k r h
      · rw [List.mem_singleton.1 h]
        have h1 := decV_szR (txtOf (rcL s k))
        have h2 : (txtOf (rcL s k)).size ≤ (rcL s k).size := by unfold txtOf; rw [ByteArray.size_extract]; omega
        have h3 : (rcL s k).size ≤ s.size := lnAt_size s (1 + k)
        omega
    · rw [rdStep_no q] at h
      exact rd_mem s k r h
theorem szR_fit {r : Rec} (h : szR r ≤ 1000000) : r.Fit := by
  obtain ⟨K, id, au, aq, iss, me, ca, a, cu, d, c, f⟩ := r
  unfold szR at h
  unfold Rec.Fit
  dsimp only at h ⊢
  have hm : 1000000 ≤ maxLen := by decide
  generalize maxLen = M at *
  generalize id.size = n1 at *
  generalize au.size = n2 at *
  generalize aq.size = n3 at *
  generalize iss.size = n4 at *
  generalize me.size = n5 at *
  generalize ca.size = n6 at *
  generalize cu.size = n7 at *
  exact ⟨by omega, by omega, by omega, by omega, by omega, by omega, by omega⟩
theorem hdP_size (s : ByteArray) (j : Nat) : (hdP s j).size ≤ s.size := by
  unfold hdP
  exact Nat.le_trans (prt_size (lnAt s 0) j) (lnAt_size s 0)
theorem file_sz {s : ByteArray} (h : fileE s = 0) : (fileV s).id.size ≤ s.size ∧ (fileV s).sd.size ≤ s.size ∧ ∀ r ∈ (fileV s).rs, szR r ≤ 7 * s.size := by
  have e := fileV_ok h
  have h1 : (fileV s).id = hdP s 1 := by rw [e]
  have h2 : (fileV s).sd = hdP s 2 := by rw [e]
  have h3 : (fileV s).rs = (rdK s (nRc s)).rs := by rw [e]
  rw [h1, h2, h3]
  exact ⟨hdP_size s 1, hdP_size s 2, rd_mem s _⟩
def DgdP (V : Bat) (n : Nat) (w : World) (e : Ending) (w' : World) : Prop :=
  ∃ A c A' c', e = .returned (.tuple #[.agg #[.string V.id, .string V.sd, .int .i64 V.dt, .slice A V.rs.length c], .slice A' n c', .int .i64 0]) ∧ IsRow w' A (V.rs.flatMap recF) ∧ V.rs.length ≤ c ∧ Below w.heap.size w w'
theorem dgd_any (s : ByteArray) (w : World) (hw : BW w) (hs : s.size ≤ 1000000) (h : fileE s = 0) : Calls Tryz.prog 49 #[.string s] w (DgdP (fileV s) (fileB s).length w) := by
  refine (bdc_any s w hw hs).mono ?_
  rintro e w' ⟨v8, v9, rfl, o8, o9, hb⟩
  obtain ⟨A, c, rfl, hr, hc⟩ := own_form o8
  obtain ⟨A', c', rfl, hr', hc'⟩ := own_form o9
  exact ⟨A, c, A', c', by rw [h]; rfl, hr, hc, hb⟩
set_option maxRecDepth 100000 in
set_option maxHeartbeats 25600000 in
theorem roundB_any (A : Option Addr) (cp : Nat) (b : Bat) (s : ByteArray) (w : World) (hw : BW w) (hr : IsRow w A (b.rs.flatMap recF)) (hok : BatRch b) (hc : b.rs.length ≤ cp) (hm : b.rs.length ≤ maxLen) (hsm : s.size ≤ maxLen) :
    Calls Tryz.prog 7 #[batV b A cp, .string s] w fun e w' => e = .returned (.bool true) ∧ Below w.heap.size w w' := by
  have HKW := Lib.hid hw
  have HR := Lib.hid hr
  have HAW := Lib.hid (fun W hW => awb_any W hW)
  have HBO := Lib.hid (fun W h => bo_any A cp b W h hok hm)
  have HBX := Lib.hid (heap_alloc_new w (.cells #[.string b.id, .string b.sd, .int .i64 b.dt, .slice A b.rs.length cp] 61))
  have HP := Lib.hid (boB_parts (b := b))
  have HEN := Lib.hid (fun hsz hi hs hl W hW h => benc_any A cp b W hW h hok.ok hsz hi hs hc hl)
  have HCK := Lib.hid (fun hl W h => bcheck_any A cp b W h hok.ok hc hl)
  have HSA := Lib.hid (fun B cq W h1 h2 => same_any A B cp cq b W h1 h2 hm)
  have HDT := Lib.hid (fun h hs W hW => dce_any b W hW h hs)
  have HTL := Lib.hid (text_le (b := b))
  have HEB : Hid (chkB b ≠ 0 → encB b = ⟨#[]⟩) := Lib.hid (fun h => by unfold encB; rw [if_neg h])
  have q9 := (str_eq (rfl : s = s)).1
  unfold BPost at HBO HSA
  unfold BenPost at HEN
  unfold PtPost at HCK
  unfold DceP at HDT
  unfold batV at HBO HEN HCK HSA
  unfold batV
  clear hw hr hok
  unfold maxLen at hsm
  generalize boB b = B at *
  generalize chkB b = E at *
  generalize encB b = T at *
  obtain ⟨id, sd, dt, rs⟩ := b
  dsimp only at *
  cases B with
  | false =>
    clear HP HEN HCK HSA HDT HTL HEB
    go_enter Tryz.func7, Tryz.ntmps7
    go_wp2_with fail
    refine (HBO.out _ (HR.out.below (bx _ _))).mono ?_
    rintro e w1 ⟨rfl, hb⟩
    have HB := Lib.hid ((bx w (.cells #[.string id, .string sd, .int .i64 dt, .slice A rs.length cp] 61)).trans (hb.mono (bx w _).size))
    have HK := Lib.hid (blk_later HBX.out hb)
    clear hb
    go_wp2_with fail
    refine (HAW.out _ (HKW.out.below HB.out)).mono ?_
    rintro e wa ⟨rfl, hb⟩
    have HB := Lib.hid (HB.out.trans (hb.mono HB.out.size))
    clear hb
    go_wp2_with fail
    go_ret
    exact ⟨rfl, HB.out⟩
  | true =>
  by_cases h4 : 40000 < s.size
  · have h4I : (40000 : Int) < (s.size : Int) := by omega
    clear HP HEN HCK HSA HDT HTL HEB
    go_enter Tryz.func7, Tryz.ntmps7
    go_wp2_with fail
    refine (HBO.out _ (HR.out.below (bx _ _))).mono ?_
    rintro e w1 ⟨rfl, hb⟩
    have HB := Lib.hid ((bx w (.cells #[.string id, .string sd, .int .i64 dt, .slice A rs.length cp] 61)).trans (hb.mono (bx w _).size))
    have HK := Lib.hid (blk_later HBX.out hb)
    clear hb
    go_wp2_with fail
    refine (HAW.out _ (HKW.out.below HB.out)).mono ?_
    rintro e wa ⟨rfl, hb⟩
    have HB := Lib.hid (HB.out.trans (hb.mono HB.out.size))
    clear hb
    go_wp2_with fail
    go_ret
    exact ⟨rfl, HB.out⟩
  have h4I : ¬ (40000 : Int) < (s.size : Int) := by omega
  obtain ⟨p1, p2, p3, p4⟩ := HP.out (by trivial)
  have HEN := Lib.hid (HEN.out (fun x hx => by have := p4 x hx; omega) (by omega) (by omega) (by omega))
  have HCK := Lib.hid (HCK.out (by omega))
  have hs1 : s.size ≤ 1000000 := by omega
  clear HP p1 p2 p4
  by_cases hf : fileE s = 0
  case neg =>
    have HDS := Lib.hid (fun W hW => dba_any s W hW hs1 hf)
    unfold DbaP at HDS
    clear hf
    by_cases hE : E = 0
    case pos =>
      subst hE
      have HDU := Lib.hid (HDT.out rfl (HTL.out rfl (by trivial)))
      clear HTL HEB HDT
      go_enter Tryz.func7, Tryz.ntmps7
      go_wp2_with fail
      refine (HBO.out _ (HR.out.below (bx _ _))).mono ?_
      rintro e w1 ⟨rfl, hb⟩
      have HB := Lib.hid ((bx w (.cells #[.string id, .string sd, .int .i64 dt, .slice A rs.length cp] 61)).trans (hb.mono (bx w _).size))
      have HK := Lib.hid (blk_later HBX.out hb)
      clear hb
      have k0 := cell_c HK.out 0
      have k1 := cell_c HK.out 1
      have k2 := cell_c HK.out 2
      have k3 := cell_c HK.out 3
      simp at k0 k1 k2 k3
      go_wp2_with fail
      refine (HEN.out _ (HKW.out.below HB.out) (HR.out.below HB.out)).mono ?_
      rintro e w2 ⟨rfl, hb⟩
      have HB := Lib.hid (HB.out.trans (hb.mono HB.out.size))
      have HK := Lib.hid (blk_later HK.out hb)
      clear hb
      clear k0 k1 k2 k3
      go_wp2_with fail
      refine (HDU.out _ (HKW.out.below HB.out)).mono ?_
      rintro e w3 ⟨A1, c1, A1', c1', rfl, hr1, hc1, hb⟩
      have HX := Lib.hid (bx w3 (.cells #[.string id, .string sd, .int .i64 dt, .slice A1 rs.length c1] 61))
      have HB := Lib.hid ((HB.out.trans (hb.mono HB.out.size)).trans (HX.out.mono (HB.out.trans (hb.mono HB.out.size)).size))
      have HK := Lib.hid (blk_later (blk_later HK.out hb) HX.out)
      have HR1 := Lib.hid (hr1.below HX.out)
      clear hb hr1 hc1 HX
      have k0 := cell_c HK.out 0
      have k1 := cell_c HK.out 1
      have k2 := cell_c HK.out 2
      have k3 := cell_c HK.out 3
      simp at k0 k1 k2 k3
      go_wp2_with fail
      refine (HSA.out _ _ _ (HR.out.below HB.out) HR1.out).mono ?_
      rintro e w4 ⟨rfl, hb⟩
      have HB := Lib.hid (HB.out.trans (hb.mono HB.out.size))
      have HK := Lib.hid (blk_later HK.out hb)
      clear hb
      clear k0 k1 k2 k3
      have k0 := cell_c HK.out 0
      have k1 := cell_c HK.out 1
      have k2 := cell_c HK.out 2
      have k3 := cell_c HK.out 3
      simp at k0 k1 k2 k3
      go_wp2_with fail
      refine (HCK.out _ (HR.out.below HB.out)).mono ?_
      rintro e w5 ⟨rfl, hb⟩
      have HB := Lib.hid (HB.out.trans (hb.mono HB.out.size))
      have HK := Lib.hid (blk_later HK.out hb)
      clear hb
      clear k0 k1 k2 k3
      go_wp2_with fail
      refine (HDS.out _ (HKW.out.below HB.out)).mono ?_
      rintro e w6 ⟨A2, c2, A2', c2', E2, hE2, rfl, hb⟩
      have heb2 : (E2 != 0) = true := by simpa using hE2
      have HX := Lib.hid (bx w6 (.cells #[.string ⟨#[]⟩, .string ⟨#[]⟩, .int .i64 0, .slice A2 0 c2] 61))
      have HB := Lib.hid ((HB.out.trans (hb.mono HB.out.size)).trans (HX.out.mono (HB.out.trans (hb.mono HB.out.size)).size))
      clear hb hE2 HX
      go_wp2_with fail
      refine (HAW.out _ (HKW.out.below HB.out)).mono ?_
      rintro e wa ⟨rfl, hb⟩
      have HB := Lib.hid (HB.out.trans (hb.mono HB.out.size))
      clear hb
      go_wp2_with fail
      go_ret
      exact ⟨rfl, HB.out⟩
    case neg =>
      have heb : (E == 0) = false := by simpa using hE
      have hec : (E != E) = false := by simp
      have hT : T = ⟨#[]⟩ := HEB.out hE
      subst hT
      clear hE HTL HEB HDT HSA
      go_enter Tryz.func7, Tryz.ntmps7
      go_wp2_with fail
      refine (HBO.out _ (HR.out.below (bx _ _))).mono ?_
      rintro e w1 ⟨rfl, hb⟩
      have HB := Lib.hid ((bx w (.cells #[.string id, .string sd, .int .i64 dt, .slice A rs.length cp] 61)).trans (hb.mono (bx w _).size))
      have HK := Lib.hid (blk_later HBX.out hb)
      clear hb
      have k0 := cell_c HK.out 0
      have k1 := cell_c HK.out 1
      have k2 := cell_c HK.out 2
      have k3 := cell_c HK.out 3
      simp at k0 k1 k2 k3
      go_wp2_with fail
      refine (HEN.out _ (HKW.out.below HB.out) (HR.out.below HB.out)).mono ?_
      rintro e w2 ⟨rfl, hb⟩
      have HB := Lib.hid (HB.out.trans (hb.mono HB.out.size))
      have HK := Lib.hid (blk_later HK.out hb)
      clear hb
      clear k0 k1 k2 k3
      have k0 := cell_c HK.out 0
      have k1 := cell_c HK.out 1
      have k2 := cell_c HK.out 2
      have k3 := cell_c HK.out 3
      simp at k0 k1 k2 k3
      go_wp2_with fail
      refine (HCK.out _ (HR.out.below HB.out)).mono ?_
      rintro e w3 ⟨rfl, hb⟩
      have HB := Lib.hid (HB.out.trans (hb.mono HB.out.size))
      have HK := Lib.hid (blk_later HK.out hb)
      clear hb
      clear k0 k1 k2 k3
      go_wp2_with fail
      refine (HDS.out _ (HKW.out.below HB.out)).mono ?_
      rintro e w6 ⟨A2, c2, A2', c2', E2, hE2, rfl, hb⟩
      have heb2 : (E2 != 0) = true := by simpa using hE2
      have HX := Lib.hid (bx w6 (.cells #[.string ⟨#[]⟩, .string ⟨#[]⟩, .int .i64 0, .slice A2 0 c2] 61))
      have HB := Lib.hid ((HB.out.trans (hb.mono HB.out.size)).trans (HX.out.mono (HB.out.trans (hb.mono HB.out.size)).size))
      clear hb hE2 HX
      go_wp2_with fail
      refine (HAW.out _ (HKW.out.below HB.out)).mono ?_
      rintro e wa ⟨rfl, hb⟩
      have HB := Lib.hid (HB.out.trans (hb.mono HB.out.size))
      clear hb
      go_wp2_with fail
      go_ret
      exact ⟨rfl, HB.out⟩
  case pos =>
  have hgood := dec_good hf
  have HDS := Lib.hid (fun W hW => dgd_any s W hW hs1 hf)
  obtain ⟨v1, v2, v3⟩ := file_sz hf
  have hv4 := (chkB_zero hgood).2.1
  have hvok : BatOk (fileV s) := ⟨by unfold maxLen; omega, by unfold maxLen; omega, fun x hx => szR_fit (by have := v3 x hx; omega)⟩
  have HCV : Hid (∀ A c W, IsRow W A ((fileV s).rs.flatMap recF) → (fileV s).rs.length ≤ c → Calls Tryz.prog 47 #[batV (fileV s) A c] W (fun e w' => e = .returned (.int .i64 0) ∧ Below W.heap.size W w')) := Lib.hid (fun A c W h hc => by
    have := bcheck_any A c (fileV s) W h hvok hc (by omega)
    unfold PtPost at this
    rw [hgood] at this; exact this)
  have HEV0 : Hid (fileB s = [] → ∀ A c W, BW W → IsRow W A ((fileV s).rs.flatMap recF) → (fileV s).rs.length ≤ c → Calls Tryz.prog 43 #[batV (fileV s) A c] W (fun e w' => e = .returned (.tuple #[.string s, .int .i64 0]) ∧ Below W.heap.size W w')) := Lib.hid (fun hb A c W hW h hc => by
    have := benc_any A c (fileV s) W hW h hvok (fun x hx => by have := v3 x hx; omega) (by omega) (by omega) hc (by omega)
    unfold BenPost at this
    rw [hgood, enc_of_dec hf hb] at this; exact this)
  unfold DgdP at HDS
  unfold batV at HCV HEV0
  clear hgood v1 v2 v3 hv4 hvok hf
  generalize fileV s = V at *
  obtain ⟨vid, vsd, vdt, vrs⟩ := V
  dsimp only at HDS HCV HEV0
  by_cases hbad : fileB s = []
  case neg =>
    have hn : 0 < (fileB s).length := List.length_pos_iff.2 hbad
    clear HEV0 hbad
    generalize (fileB s).length = nb at *
    have hnI : (0 : Int) < (nb : Int) := by omega
    by_cases hE : E = 0
    case pos =>
      subst hE
      have HDU := Lib.hid (HDT.out rfl (HTL.out rfl (by trivial)))
      clear HTL HEB HDT
      go_enter Tryz.func7, Tryz.ntmps7
      go_wp2_with fail
      refine (HBO.out _ (HR.out.below (bx _ _))).mono ?_
      rintro e w1 ⟨rfl, hb⟩
      have HB := Lib.hid ((bx w (.cells #[.string id, .string sd, .int .i64 dt, .slice A rs.length cp] 61)).trans (hb.mono (bx w _).size))
      have HK := Lib.hid (blk_later HBX.out hb)
      clear hb
      have k0 := cell_c HK.out 0
      have k1 := cell_c HK.out 1
      have k2 := cell_c HK.out 2
      have k3 := cell_c HK.out 3
      simp at k0 k1 k2 k3
      go_wp2_with fail
      refine (HEN.out _ (HKW.out.below HB.out) (HR.out.below HB.out)).mono ?_
      rintro e w2 ⟨rfl, hb⟩
      have HB := Lib.hid (HB.out.trans (hb.mono HB.out.size))
      have HK := Lib.hid (blk_later HK.out hb)
      clear hb
      clear k0 k1 k2 k3
      go_wp2_with fail
      refine (HDU.out _ (HKW.out.below HB.out)).mono ?_
      rintro e w3 ⟨A1, c1, A1', c1', rfl, hr1, hc1, hb⟩
      have HX := Lib.hid (bx w3 (.cells #[.string id, .string sd, .int .i64 dt, .slice A1 rs.length c1] 61))
      have HB := Lib.hid ((HB.out.trans (hb.mono HB.out.size)).trans (HX.out.mono (HB.out.trans (hb.mono HB.out.size)).size))
      have HK := Lib.hid (blk_later (blk_later HK.out hb) HX.out)
      have HR1 := Lib.hid (hr1.below HX.out)
      clear hb hr1 hc1 HX
      have k0 := cell_c HK.out 0
      have k1 := cell_c HK.out 1
      have k2 := cell_c HK.out 2
      have k3 := cell_c HK.out 3
      simp at k0 k1 k2 k3
      go_wp2_with fail
      refine (HSA.out _ _ _ (HR.out.below HB.out) HR1.out).mono ?_
      rintro e w4 ⟨rfl, hb⟩
      have HB := Lib.hid (HB.out.trans (hb.mono HB.out.size))
      have HK := Lib.hid (blk_later HK.out hb)
      clear hb
      clear k0 k1 k2 k3
      have k0 := cell_c HK.out 0
      have k1 := cell_c HK.out 1
      have k2 := cell_c HK.out 2
      have k3 := cell_c HK.out 3
      simp at k0 k1 k2 k3
      go_wp2_with fail
      refine (HCK.out _ (HR.out.below HB.out)).mono ?_
      rintro e w5 ⟨rfl, hb⟩
      have HB := Lib.hid (HB.out.trans (hb.mono HB.out.size))
      have HK := Lib.hid (blk_later HK.out hb)
      clear hb
      clear k0 k1 k2 k3
      go_wp2_with fail
      refine (HDS.out _ (HKW.out.below HB.out)).mono ?_
      rintro e w6 ⟨A2, c2, A2', c2', rfl, hr2, hc2, hb⟩
      have HX := Lib.hid (bx w6 (.cells #[.string vid, .string vsd, .int .i64 vdt, .slice A2 vrs.length c2] 61))
      have HB := Lib.hid ((HB.out.trans (hb.mono HB.out.size)).trans (HX.out.mono (HB.out.trans (hb.mono HB.out.size)).size))
      have HR2 := Lib.hid (hr2.below HX.out)
      have HC2 := Lib.hid hc2
      clear hb hr2 hc2 HX
      go_wp2_with fail
      refine (HCV.out _ _ _ HR2.out HC2.out).mono ?_
      rintro e w7 ⟨rfl, hb⟩
      have HB := Lib.hid (HB.out.trans (hb.mono HB.out.size))
      clear hb
      go_wp2_with fail
      refine (HAW.out _ (HKW.out.below HB.out)).mono ?_
      rintro e wa ⟨rfl, hb⟩
      have HB := Lib.hid (HB.out.trans (hb.mono HB.out.size))
      clear hb
      go_wp2_with fail
      go_ret
      exact ⟨rfl, HB.out⟩
    case neg =>
      have heb : (E == 0) = false := by simpa using hE
      have hec : (E != E) = false := by simp
      have hT : T = ⟨#[]⟩ := HEB.out hE
      subst hT
      clear hE HTL HEB HDT HSA
      go_enter Tryz.func7, Tryz.ntmps7
      go_wp2_with fail
      refine (HBO.out _ (HR.out.below (bx _ _))).mono ?_
      rintro e w1 ⟨rfl, hb⟩
      have HB := Lib.hid ((bx w (.cells #[.string id, .string sd, .int .i64 dt, .slice A rs.length cp] 61)).trans (hb.mono (bx w _).size))
      have HK := Lib.hid (blk_later HBX.out hb)
      clear hb
      have k0 := cell_c HK.out 0
      have k1 := cell_c HK.out 1
      have k2 := cell_c HK.out 2
      have k3 := cell_c HK.out 3
      simp at k0 k1 k2 k3
      go_wp2_with fail
      refine (HEN.out _ (HKW.out.below HB.out) (HR.out.below HB.out)).mono ?_
      rintro e w2 ⟨rfl, hb⟩
      have HB := Lib.hid (HB.out.trans (hb.mono HB.out.size))
      have HK := Lib.hid (blk_later HK.out hb)
      clear hb
      clear k0 k1 k2 k3
      have k0 := cell_c HK.out 0
      have k1 := cell_c HK.out 1
      have k2 := cell_c HK.out 2
      have k3 := cell_c HK.out 3
      simp at k0 k1 k2 k3
      go_wp2_with fail
      refine (HCK.out _ (HR.out.below HB.out)).mono ?_
      rintro e w3 ⟨rfl, hb⟩
      have HB := Lib.hid (HB.out.trans (hb.mono HB.out.size))
      have HK := Lib.hid (blk_later HK.out hb)
      clear hb
      clear k0 k1 k2 k3
      go_wp2_with fail
      refine (HDS.out _ (HKW.out.below HB.out)).mono ?_
      rintro e w6 ⟨A2, c2, A2', c2', rfl, hr2, hc2, hb⟩
      have HX := Lib.hid (bx w6 (.cells #[.string vid, .string vsd, .int .i64 vdt, .slice A2 vrs.length c2] 61))
      have HB := Lib.hid ((HB.out.trans (hb.mono HB.out.size)).trans (HX.out.mono (HB.out.trans (hb.mono HB.out.size)).size))
      have HR2 := Lib.hid (hr2.below HX.out)
      have HC2 := Lib.hid hc2
      clear hb hr2 hc2 HX
      go_wp2_with fail
      refine (HCV.out _ _ _ HR2.out HC2.out).mono ?_
      rintro e w7 ⟨rfl, hb⟩
      have HB := Lib.hid (HB.out.trans (hb.mono HB.out.size))
      clear hb
      go_wp2_with fail
      refine (HAW.out _ (HKW.out.below HB.out)).mono ?_
      rintro e wa ⟨rfl, hb⟩
      have HB := Lib.hid (HB.out.trans (hb.mono HB.out.size))
      clear hb
      go_wp2_with fail
      go_ret
      exact ⟨rfl, HB.out⟩
  case pos =>
    have HEV := Lib.hid (HEV0.out hbad)
    rw [hbad] at HDS
    clear HEV0 hbad HCV
    dsimp only [List.length_nil] at HDS
    by_cases hE : E = 0
    case pos =>
      subst hE
      have HDU := Lib.hid (HDT.out rfl (HTL.out rfl (by trivial)))
      clear HTL HEB HDT
      go_enter Tryz.func7, Tryz.ntmps7
      go_wp2_with fail
      refine (HBO.out _ (HR.out.below (bx _ _))).mono ?_
      rintro e w1 ⟨rfl, hb⟩
      have HB := Lib.hid ((bx w (.cells #[.string id, .string sd, .int .i64 dt, .slice A rs.length cp] 61)).trans (hb.mono (bx w _).size))
      have HK := Lib.hid (blk_later HBX.out hb)
      clear hb
      have k0 := cell_c HK.out 0
      have k1 := cell_c HK.out 1
      have k2 := cell_c HK.out 2
      have k3 := cell_c HK.out 3
      simp at k0 k1 k2 k3
      go_wp2_with fail
      refine (HEN.out _ (HKW.out.below HB.out) (HR.out.below HB.out)).mono ?_
      rintro e w2 ⟨rfl, hb⟩
      have HB := Lib.hid (HB.out.trans (hb.mono HB.out.size))
      have HK := Lib.hid (blk_later HK.out hb)
      clear hb
      clear k0 k1 k2 k3
      go_wp2_with fail
      refine (HDU.out _ (HKW.out.below HB.out)).mono ?_
      rintro e w3 ⟨A1, c1, A1', c1', rfl, hr1, hc1, hb⟩
      have HX := Lib.hid (bx w3 (.cells #[.string id, .string sd, .int .i64 dt, .slice A1 rs.length c1] 61))
      have HB := Lib.hid ((HB.out.trans (hb.mono HB.out.size)).trans (HX.out.mono (HB.out.trans (hb.mono HB.out.size)).size))
      have HK := Lib.hid (blk_later (blk_later HK.out hb) HX.out)
      have HR1 := Lib.hid (hr1.below HX.out)
      clear hb hr1 hc1 HX
      have k0 := cell_c HK.out 0
      have k1 := cell_c HK.out 1
      have k2 := cell_c HK.out 2
      have k3 := cell_c HK.out 3
      simp at k0 k1 k2 k3
      go_wp2_with fail
      refine (HSA.out _ _ _ (HR.out.below HB.out) HR1.out).mono ?_
      rintro e w4 ⟨rfl, hb⟩
      have HB := Lib.hid (HB.out.trans (hb.mono HB.out.size))
      have HK := Lib.hid (blk_later HK.out hb)
      clear hb
      clear k0 k1 k2 k3
      have k0 := cell_c HK.out 0
      have k1 := cell_c HK.out 1
      have k2 := cell_c HK.out 2
      have k3 := cell_c HK.out 3
      simp at k0 k1 k2 k3
      go_wp2_with fail
      refine (HCK.out _ (HR.out.below HB.out)).mono ?_
      rintro e w5 ⟨rfl, hb⟩
      have HB := Lib.hid (HB.out.trans (hb.mono HB.out.size))
      have HK := Lib.hid (blk_later HK.out hb)
      clear hb
      clear k0 k1 k2 k3
      go_wp2_with fail
      refine (HDS.out _ (HKW.out.below HB.out)).mono ?_
      rintro e w6 ⟨A2, c2, A2', c2', rfl, hr2, hc2, hb⟩
      have HX := Lib.hid (bx w6 (.cells #[.string vid, .string vsd, .int .i64 vdt, .slice A2 vrs.length c2] 61))
      have HB := Lib.hid ((HB.out.trans (hb.mono HB.out.size)).trans (HX.out.mono (HB.out.trans (hb.mono HB.out.size)).size))
      have HR2 := Lib.hid (hr2.below HX.out)
      have HC2 := Lib.hid hc2
      clear hb hr2 hc2 HX
      go_wp2_with fail
      refine (HEV.out _ _ _ (HKW.out.below HB.out) HR2.out HC2.out).mono ?_
      rintro e w7 ⟨rfl, hb⟩
      have HB := Lib.hid (HB.out.trans (hb.mono HB.out.size))
      clear hb
      go_wp2_with fail
      refine (HAW.out _ (HKW.out.below HB.out)).mono ?_
      rintro e wa ⟨rfl, hb⟩
      have HB := Lib.hid (HB.out.trans (hb.mono HB.out.size))
      clear hb
      go_wp2_with fail
      go_ret
      exact ⟨rfl, HB.out⟩
    case neg =>
      have heb : (E == 0) = false := by simpa using hE
      have hec : (E != E) = false := by simp
      have hT : T = ⟨#[]⟩ := HEB.out hE
      subst hT
      clear hE HTL HEB HDT HSA
      go_enter Tryz.func7, Tryz.ntmps7
      go_wp2_with fail
      refine (HBO.out _ (HR.out.below (bx _ _))).mono ?_
      rintro e w1 ⟨rfl, hb⟩
      have HB := Lib.hid ((bx w (.cells #[.string id, .string sd, .int .i64 dt, .slice A rs.length cp] 61)).trans (hb.mono (bx w _).size))
      have HK := Lib.hid (blk_later HBX.out hb)
      clear hb
      have k0 := cell_c HK.out 0
      have k1 := cell_c HK.out 1
      have k2 := cell_c HK.out 2
      have k3 := cell_c HK.out 3
      simp at k0 k1 k2 k3
      go_wp2_with fail
      refine (HEN.out _ (HKW.out.below HB.out) (HR.out.below HB.out)).mono ?_
      rintro e w2 ⟨rfl, hb⟩
      have HB := Lib.hid (HB.out.trans (hb.mono HB.out.size))
      have HK := Lib.hid (blk_later HK.out hb)
      clear hb
      clear k0 k1 k2 k3
      have k0 := cell_c HK.out 0
      have k1 := cell_c HK.out 1
      have k2 := cell_c HK.out 2
      have k3 := cell_c HK.out 3
      simp at k0 k1 k2 k3
      go_wp2_with fail
      refine (HCK.out _ (HR.out.below HB.out)).mono ?_
      rintro e w3 ⟨rfl, hb⟩
      have HB := Lib.hid (HB.out.trans (hb.mono HB.out.size))
      have HK := Lib.hid (blk_later HK.out hb)
      clear hb
      clear k0 k1 k2 k3
      go_wp2_with fail
      refine (HDS.out _ (HKW.out.below HB.out)).mono ?_
      rintro e w6 ⟨A2, c2, A2', c2', rfl, hr2, hc2, hb⟩
      have HX := Lib.hid (bx w6 (.cells #[.string vid, .string vsd, .int .i64 vdt, .slice A2 vrs.length c2] 61))
      have HB := Lib.hid ((HB.out.trans (hb.mono HB.out.size)).trans (HX.out.mono (HB.out.trans (hb.mono HB.out.size)).size))
      have HR2 := Lib.hid (hr2.below HX.out)
      have HC2 := Lib.hid hc2
      clear hb hr2 hc2 HX
      go_wp2_with fail
      refine (HEV.out _ _ _ (HKW.out.below HB.out) HR2.out HC2.out).mono ?_
      rintro e w7 ⟨rfl, hb⟩
      have HB := Lib.hid (HB.out.trans (hb.mono HB.out.size))
      clear hb
      go_wp2_with fail
      refine (HAW.out _ (HKW.out.below HB.out)).mono ?_
      rintro e wa ⟨rfl, hb⟩
      have HB := Lib.hid (HB.out.trans (hb.mono HB.out.size))
      clear hb
      go_wp2_with fail
      go_ret
      exact ⟨rfl, HB.out⟩
theorem batchRoundTrip_walk (w : World) (hw : BW w) (_ : True) (x : BArg) (hx : BOk w x) (s : ByteArray) (hs : s.size ≤ maxLen) :
    Calls Tryz.prog 7 #[x.val, .string s] w fun e w' => e = .returned (.bool true) ∧ Below w.heap.size w w' :=
  roundB_any x.A x.cp x.b s w hw hx.r hx.k hx.c (Nat.le_trans hx.c hx.m) hs
end Go.Proofs.YthflmdgfenojcaaGreatDoor
