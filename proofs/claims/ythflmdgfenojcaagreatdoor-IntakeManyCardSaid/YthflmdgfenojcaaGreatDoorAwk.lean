/- The walk of awake. -/
import Derived.Test.YthflmdgfenojcaaGreatDoorAwv
import Derived.Lib.ItoaWalk
namespace Go.Proofs.YthflmdgfenojcaaGreatDoor
set_option linter.unusedVariables false
open Go.RowKit Go.Sort

set_option maxRecDepth 100000 in
theorem eq_same (r : Rec) (w : World) : (binOp .eql 57 r.val r.val).run Tryz.prog w = .ok (.bool true) w := by
  unfold Rec.val Rec.cells
  rw [run_eql_struct]
  rw [run_equalIn_struct _ _ _ _ _ Tryz.underlying57 Tryz.stoodInHeld57]
  go_simp
set_option maxRecDepth 100000 in
theorem neq_same (r : Rec) (w : World) : (binOp .neq 57 r.val r.val).run Tryz.prog w = .ok (.bool false) w := by
  unfold Rec.val Rec.cells
  rw [run_neq_struct]
  rw [run_equalIn_struct _ _ _ _ _ Tryz.underlying57 Tryz.stoodInHeld57]
  go_simp
theorem row12 {w w' : World} {X : Nat} {K : Int} {id au aq iss me ca : ByteArray} {a : Int} {cu : ByteArray} {d c : Int} {f : Bool} (hb : Below w.heap.size w w') (h : w.heap[X]? = some (.cells #[.int .i64 K, .string id, .string au, .string aq, .string iss, .string me, .string ca, .int .i64 a, .string cu, .int .i64 d, .int .i64 c, .bool f] 57)) :
    Below w.heap.size w w' ∧ w'.cell? ⟨X, 0, none⟩ = some (.int .i64 K) ∧ w'.cell? ⟨X, 1, none⟩ = some (.string id) ∧ w'.cell? ⟨X, 2, none⟩ = some (.string au) ∧ w'.cell? ⟨X, 3, none⟩ = some (.string aq) ∧ w'.cell? ⟨X, 4, none⟩ = some (.string iss) ∧ w'.cell? ⟨X, 5, none⟩ = some (.string me) ∧ w'.cell? ⟨X, 6, none⟩ = some (.string ca) ∧ w'.cell? ⟨X, 7, none⟩ = some (.int .i64 a) ∧ w'.cell? ⟨X, 8, none⟩ = some (.string cu) ∧ w'.cell? ⟨X, 9, none⟩ = some (.int .i64 d) ∧ w'.cell? ⟨X, 10, none⟩ = some (.int .i64 c) ∧ w'.cell? ⟨X, 11, none⟩ = some (.bool f) := by
  have h' := blk_later h hb
  exact ⟨hb, cell_c h' 0, cell_c h' 1, cell_c h' 2, cell_c h' 3, cell_c h' 4, cell_c h' 5, cell_c h' 6, cell_c h' 7, cell_c h' 8, cell_c h' 9, cell_c h' 10, cell_c h' 11⟩
set_option maxRecDepth 100000 in
set_option maxHeartbeats 12800000 in
theorem awake_any (w : World) (hw : KW w) : Calls Tryz.prog 32 #[] w fun e w' => e = .returned (.bool true) ∧ Below w.heap.size w w' := by
  have HKW := Lib.hid hw
  have HS1 := Lib.hid (fun W => sample_any 1 W)
  have HS2 := Lib.hid (fun W => sample_any 2 W)
  have HS5 := Lib.hid (fun W => sample_any 5 W)
  have HE := Lib.hid (fun W hW => enc_any (sampR 1) (samp_fit 1) (by decide) W hW)
  have HD1 := Lib.hid (fun W hW => dec_any txt1 W hW (by decide))
  have HD2 := Lib.hid (fun W hW => dec_any txt2 W hW (by decide))
  have HD3 := Lib.hid (fun W hW => dec_any txt3 W hW (by decide))
  have HB1 := Lib.hid (fun W => debit_any (sampR 1) (samp_fit 1) W)
  have HB2 := Lib.hid (fun W => debit_any (sampR 2) (samp_fit 2) W)
  have HC5 := Lib.hid (fun W => chk_any (sampR 5) (samp_fit 5) W)
  have HN := Lib.hid (fun W => name3 W)
  have HV2 := Lib.hid (zrec_bad (s := txt2) (by rw [dec2]; decide))
  have HV3 := Lib.hid (zrec_bad (s := txt3) (by rw [dec3]; decide))
  have heq := fun W => eq_same (sampR 1) W
  unfold EncPost at HE
  unfold DecPost at HD1 HD2 HD3
  unfold IPost at HB1 HB2
  unfold PtPost at HC5
  rw [encv1, chk1] at HE
  rw [dec1.1, dec1.2] at HD1
  rw [dec2, HV2.out] at HD2
  rw [dec3, HV3.out] at HD3
  rw [deb1] at HB1
  rw [deb2] at HB2
  rw [chk5] at HC5
  generalize (sampR 2).val = v2 at *
  generalize (sampR 5).val = v5 at *
  generalize sampR 1 = r1 at *
  generalize zrec = zr at HD2 HD3
  obtain ⟨zK, zid, zau, zaq, ziss, zme, zca, za, zcu, zd, zc, zf⟩ := zr
  obtain ⟨K, id, au, aq, iss, me, ca, a, cu, d, c, f⟩ := r1
  unfold Rec.val Rec.cells at *
  dsimp only at *
  clear hw HV2 HV3
  go_enter Tryz.func32, Tryz.ntmps32
  go_name_bytes_deep 40 T1 hT1
  have e1 : T1 = txt1 := by rw [← hT1]; rfl
  subst e1
  clear hT1
  go_name_bytes_deep 40 T2 hT2
  have e2 : T2 = txt2 := by rw [← hT2]; rfl
  subst e2
  clear hT2
  go_name_bytes_deep 40 T3 hT3
  have e3 : T3 = txt3 := by rw [← hT3]; rfl
  subst e3
  clear hT3
  go_wp2_with fail
  refine (HS1.out _).mono ?_
  rintro e w1 ⟨rfl, hb⟩
  have HB := Lib.hid hb
  clear hb
  go_wp2_with fail
  refine (HE.out _ (HKW.out.below HB.out)).mono ?_
  rintro e w2 ⟨rfl, hb⟩
  have HB := Lib.hid (HB.out.trans (hb.mono HB.out.size))
  clear hb
  go_wp2_with fail
  refine (HD1.out _ (HKW.out.below HB.out)).mono ?_
  rintro e w3 ⟨rfl, hb⟩
  have HB := Lib.hid (HB.out.trans (hb.mono HB.out.size))
  clear hb
  go_wp2_with fail
  have HB := Lib.hid (HB.out.trans ((bx w3 (.cells #[.int .i64 K, .string id, .string au, .string aq, .string iss, .string me, .string ca, .int .i64 a, .string cu, .int .i64 d, .int .i64 c, .bool f] 57)).mono HB.out.size))
  have HK := Lib.hid (heap_alloc_new w3 (.cells #[.int .i64 K, .string id, .string au, .string aq, .string iss, .string me, .string ca, .int .i64 a, .string cu, .int .i64 d, .int .i64 c, .bool f] 57))
  generalize w3.heap.size = X at *
  refine (HD2.out _ (HKW.out.below HB.out)).mono ?_
  rintro e w4 ⟨rfl, hb⟩
  have HB := Lib.hid (HB.out.trans (hb.mono HB.out.size))
  have HK := Lib.hid (blk_later HK.out hb)
  clear hb
  go_wp2_with fail
  have HB := Lib.hid (HB.out.trans ((bx w4 (.cells #[.int .i64 zK, .string zid, .string zau, .string zaq, .string ziss, .string zme, .string zca, .int .i64 za, .string zcu, .int .i64 zd, .int .i64 zc, .bool zf] 57)).mono HB.out.size))
  have HK := Lib.hid (blk_later HK.out (bx w4 (.cells #[.int .i64 zK, .string zid, .string zau, .string zaq, .string ziss, .string zme, .string zca, .int .i64 za, .string zcu, .int .i64 zd, .int .i64 zc, .bool zf] 57)))
  refine (HD3.out _ (HKW.out.below HB.out)).mono ?_
  rintro e w5 ⟨rfl, hb⟩
  have HB := Lib.hid (HB.out.trans (hb.mono HB.out.size))
  have HK := Lib.hid (blk_later HK.out hb)
  clear hb
  go_wp2_with fail
  have HB := Lib.hid (HB.out.trans ((bx w5 (.cells #[.int .i64 zK, .string zid, .string zau, .string zaq, .string ziss, .string zme, .string zca, .int .i64 za, .string zcu, .int .i64 zd, .int .i64 zc, .bool zf] 57)).mono HB.out.size))
  have HK := Lib.hid (blk_later HK.out (bx w5 (.cells #[.int .i64 zK, .string zid, .string zau, .string zaq, .string ziss, .string zme, .string zca, .int .i64 za, .string zcu, .int .i64 zd, .int .i64 zc, .bool zf] 57)))
  generalize w5.alloc (.cells #[.int .i64 zK, .string zid, .string zau, .string zaq, .string ziss, .string zme, .string zca, .int .i64 za, .string zcu, .int .i64 zd, .int .i64 zc, .bool zf] 57) = W at *
  have HBW : Hid (Below W.heap.size W W.drew) := Lib.hid ((Below.refl _ _).drew)
  go_region_held3 (fun w' => Below W.heap.size W w' ∧ w'.cell? ⟨X, 0, none⟩ = some (.int .i64 K) ∧ w'.cell? ⟨X, 1, none⟩ = some (.string id) ∧ w'.cell? ⟨X, 2, none⟩ = some (.string au) ∧ w'.cell? ⟨X, 3, none⟩ = some (.string aq) ∧ w'.cell? ⟨X, 4, none⟩ = some (.string iss) ∧ w'.cell? ⟨X, 5, none⟩ = some (.string me) ∧ w'.cell? ⟨X, 6, none⟩ = some (.string ca) ∧ w'.cell? ⟨X, 7, none⟩ = some (.int .i64 a) ∧ w'.cell? ⟨X, 8, none⟩ = some (.string cu) ∧ w'.cell? ⟨X, 9, none⟩ = some (.int .i64 d) ∧ w'.cell? ⟨X, 10, none⟩ = some (.int .i64 c) ∧ w'.cell? ⟨X, 11, none⟩ = some (.bool f))
    (exact row12 HBW.out HK.out)
    (first
      | (go_at_call 76; (first | (with_reducible refine (HS1.out _).mono ?_) | (with_reducible refine (HS2.out _).mono ?_) | (with_reducible refine (HS5.out _).mono ?_)); rintro e w' ⟨rfl, hb⟩; have HBW := Lib.hid (HBW.out.trans (hb.mono HBW.out.size)); clear hb)
      | (go_at_call 37; (first | (with_reducible refine (HB1.out _).mono ?_) | (with_reducible refine (HB2.out _).mono ?_)); rintro e w' ⟨rfl, hb⟩; have HBW := Lib.hid (HBW.out.trans (hb.mono HBW.out.size)); clear hb)
      | (go_at_call 39; refine (HN.out _).mono ?_; rintro e w' ⟨rfl, rfl⟩)
      | (go_at_call 35; refine (HC5.out _).mono ?_; rintro e w' ⟨rfl, hb⟩; have HBW := Lib.hid (HBW.out.trans (hb.mono HBW.out.size)); clear hb))
  go_wp2_with fail
  go_ret
  exact ⟨rfl, HB.out.trans (HBW.out.mono HB.out.size)⟩
end Go.Proofs.YthflmdgfenojcaaGreatDoor
