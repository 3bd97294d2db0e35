/- The law Checks. -/
import Derived.Test.YthflmdgfenojcaaGreatDoorREnc
namespace Go.Proofs.YthflmdgfenojcaaGreatDoor
set_option linter.unusedVariables false
open Go.RowKit Go.Sort

theorem short_sizes {r : Rec} (h : shortB r = true) : r.id.size + r.au.size + r.aq.size + r.iss.size + r.me.size + r.ca.size + r.cu.size ≤ 1000000 := by
  unfold shortB at h
  simp only [Bool.and_eq_true, decide_eq_true_eq] at h
  omega
set_option maxRecDepth 100000 in
set_option maxHeartbeats 12800000 in
theorem checks_any (r : Rec) (hr : r.Fit) (w : World) (hw : KW w) : Calls Tryz.prog 5 #[r.val] w fun e w' => e = .returned (.bool true) ∧ Below w.heap.size w w' := by
  have HKW := Lib.hid hw
  have HAW := Lib.hid (fun W hW => awake_any W hW)
  have HSH := Lib.hid (fun W => short_any r W)
  have HCH := Lib.hid (fun W => chk_any r hr W)
  have HRC := Lib.hid (fun W => rchk_any r hr W)
  have HDB := Lib.hid (fun W => debit_any r hr W)
  have HRD := Lib.hid (fun W => rdebit_any r hr W)
  have HN := Lib.hid (fun W => name_any r.k W)
  have HRN := Lib.hid (fun W => rname_any2 r.k W)
  have HSZ := Lib.hid (short_sizes (r := r))
  have HEN := Lib.hid (fun hz W hW => enc_any r hr hz W hW)
  have HRE := Lib.hid (fun hz W => renc_any r hr hz W)
  unfold BPost at HSH
  unfold PtPost at HCH HRC
  unfold IPost at HDB HRD
  unfold EncPost at HEN HRE
  generalize encV r = V at *
  generalize debV r = D at *
  generalize chkE r = CE at *
  generalize shortB r = S at *
  obtain ⟨K, id, au, aq, iss, me, ca, a, cu, d, c, f⟩ := r
  unfold Rec.val Rec.cells at *
  dsimp only at *
  generalize nameV K = NV at *
  clear hw hr
  cases S with
  | false =>
    go_enter Tryz.func5, Tryz.ntmps5
    go_wp2_with fail
    refine (HSH.out _).mono ?_
    rintro e w1 ⟨rfl, hb⟩
    have HB := Lib.hid (box1 hb).2.2
    clear hb
    go_wp2_with fail
    refine (HAW.out _ (HKW.out.below HB.out)).mono ?_
    rintro e w2 ⟨rfl, hb⟩
    have HB := Lib.hid (HB.out.trans (hb.mono HB.out.size))
    clear hb
    go_wp2_with fail
    go_ret
    exact ⟨rfl, HB.out⟩
  | true =>
    have HEN' := Lib.hid (HEN.out (HSZ.out rfl))
    have HRE' := Lib.hid (HRE.out (HSZ.out rfl))
    clear HEN HRE HSZ
    go_enter Tryz.func5, Tryz.ntmps5
    go_wp2_with fail
    refine (HSH.out _).mono ?_
    rintro e w1 ⟨rfl, hb⟩
    have HB := Lib.hid (box1 hb).2.2
    have HK := Lib.hid (box1 hb).1
    clear hb
    obtain ⟨-, k0, k1, k2, k3, k4, k5, k6, k7, k8, k9, k10, k11⟩ := row12 (Below.refl _ _) HK.out
    go_wp2_with fail
    refine (HEN'.out _ (HKW.out.below HB.out)).mono ?_
    rintro e w2 ⟨rfl, hb⟩
    have HB := Lib.hid (HB.out.trans (hb.mono HB.out.size))
    have HK := Lib.hid (blk_later HK.out hb)
    clear hb k0 k1 k2 k3 k4 k5 k6 k7 k8 k9 k10 k11
    obtain ⟨-, k0, k1, k2, k3, k4, k5, k6, k7, k8, k9, k10, k11⟩ := row12 (Below.refl _ _) HK.out
    go_wp2_with fail
    refine (HRE'.out _).mono ?_
    rintro e W ⟨rfl, hb⟩
    have HB := Lib.hid (HB.out.trans (hb.mono HB.out.size))
    have HK := Lib.hid (blk_later HK.out hb)
    clear hb k0 k1 k2 k3 k4 k5 k6 k7 k8 k9 k10 k11
    go_wp2_with fail
    have HBW : Hid (Below W.heap.size W W.drew) := Lib.hid ((Below.refl _ _).drew)
    have HWL := Lib.hid HB.out.size
    go_region_held3 (fun w' => Below W.heap.size W w' ∧ w'.cell? ⟨w.heap.size, 0, none⟩ = some (.int .i64 K) ∧ w'.cell? ⟨w.heap.size, 1, none⟩ = some (.string id) ∧ w'.cell? ⟨w.heap.size, 2, none⟩ = some (.string au) ∧ w'.cell? ⟨w.heap.size, 3, none⟩ = some (.string aq) ∧ w'.cell? ⟨w.heap.size, 4, none⟩ = some (.string iss) ∧ w'.cell? ⟨w.heap.size, 5, none⟩ = some (.string me) ∧ w'.cell? ⟨w.heap.size, 6, none⟩ = some (.string ca) ∧ w'.cell? ⟨w.heap.size, 7, none⟩ = some (.int .i64 a) ∧ w'.cell? ⟨w.heap.size, 8, none⟩ = some (.string cu) ∧ w'.cell? ⟨w.heap.size, 9, none⟩ = some (.int .i64 d) ∧ w'.cell? ⟨w.heap.size, 10, none⟩ = some (.int .i64 c) ∧ w'.cell? ⟨w.heap.size, 11, none⟩ = some (.bool f))
      (exact row12 HBW.out HK.out)
      (first
        | (go_at_call 35; refine (HCH.out _).mono ?_; rintro e w' ⟨rfl, hb⟩; have HBW := Lib.hid (HBW.out.trans (hb.mono HBW.out.size)); clear hb)
        | (go_at_call 36; refine (HRC.out _).mono ?_; rintro e w' ⟨rfl, hb⟩; have HBW := Lib.hid (HBW.out.trans (hb.mono HBW.out.size)); clear hb)
        | (go_at_call 37; refine (HDB.out _).mono ?_; rintro e w' ⟨rfl, hb⟩; have HBW := Lib.hid (HBW.out.trans (hb.mono HBW.out.size)); clear hb)
        | (go_at_call 38; refine (HRD.out _).mono ?_; rintro e w' ⟨rfl, hb⟩; have HBW := Lib.hid (HBW.out.trans (hb.mono HBW.out.size)); clear hb)
        | (go_at_call 39; refine (HN.out _).mono ?_; rintro e w' ⟨rfl, rfl⟩)
        | (go_at_call 40; refine (HRN.out _).mono ?_; rintro e w' ⟨rfl, rfl⟩)
        | (go_at_call 32; refine (HAW.out _ (HKW.out.below (HB.out.trans (HBW.out.mono HB.out.size)))).mono ?_; rintro e w' ⟨rfl, hb⟩; have HBW := Lib.hid (HBW.out.trans (hb.mono HBW.out.size)); clear hb))
    go_wp2_with fail
    go_ret
    exact ⟨rfl, HB.out.trans (HBW.out.mono HB.out.size)⟩
theorem recordChecks_walk (w : World) (hw : KW w) (_ : True) (r : Rec) (hr : r.Fit) : Calls Tryz.prog 5 #[r.val] w fun e w' => e = .returned (.bool true) ∧ Below w.heap.size w w' := checks_any r hr w hw
end Go.Proofs.YthflmdgfenojcaaGreatDoor
