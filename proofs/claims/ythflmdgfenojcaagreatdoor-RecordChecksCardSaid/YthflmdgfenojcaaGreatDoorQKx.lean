/- What the law needs beyond the packed texts. -/
import Derived.Laws.MakeOwn
import Derived.Laws.Rows
import Derived.WalkLawsBesides
import Derived.Sort.Walk0
import Derived.Lib.ItoaWalk
import Derived.Lib.ItoaLen
import Derived.Deep.QuietTactic
import Derived.BigQuiet
import Derived.Laws.Concat
import Derived.Test.YthflmdgfenojcaaGreatDoorRows
import Derived.Lib.LaidTab
import Derived.Lib.SmallJoins
import Derived.OpenShut
import Derived.Stop.LaidErr
import Derived.Shelf.Vars
import Derived.Test.YthflmdgfenojcaaGreatDoorQBase
import Derived.Test.YthflmdgfenojcaaGreatDoorQShelf
import Derived.Test.YthflmdgfenojcaaGreatDoorQLex
import Derived.Test.YthflmdgfenojcaaGreatDoorQLCd
import Derived.Test.YthflmdgfenojcaaGreatDoorQPan
import Derived.Test.YthflmdgfenojcaaGreatDoorQMon
import Derived.Test.YthflmdgfenojcaaGreatDoorQPlain
import Derived.Test.YthflmdgfenojcaaGreatDoorQRec
import Derived.Test.YthflmdgfenojcaaGreatDoorQChk
import Derived.Test.YthflmdgfenojcaaGreatDoorQNbr
import Derived.Test.YthflmdgfenojcaaGreatDoorQEnc
import Derived.Test.YthflmdgfenojcaaGreatDoorQCut
import Derived.Test.YthflmdgfenojcaaGreatDoorQDec
import Derived.Test.YthflmdgfenojcaaGreatDoorQSl
import Derived.Test.YthflmdgfenojcaaGreatDoorQAw
import Derived.Test.YthflmdgfenojcaaGreatDoorQHo
namespace Go.Proofs.YthflmdgfenojcaaGreatDoor
set_option linter.unusedVariables false
open Go.RowKit
theorem mk9 : (Tryz.prog.info? 9).map (fun i => (i.zero, i.size, i.bytes)) = some (some (.string ByteArray.empty), 1, 16) := by kernel_rfl
set_option maxRecDepth 100000 in
theorem make12 (w : World) : (Instr.makeSlice 22 (.int .i64 12) (.int .i64 12)).run Tryz.prog w = .ok (.slice (some ⟨w.heap.size, 0, none⟩) 12 12) (w.alloc (.cells #[.string ByteArray.empty, .string ByteArray.empty, .string ByteArray.empty, .string ByteArray.empty, .string ByteArray.empty, .string ByteArray.empty, .string ByteArray.empty, .string ByteArray.empty, .string ByteArray.empty, .string ByteArray.empty, .string ByteArray.empty, .string ByteArray.empty] 9)) := by
  obtain ⟨i0, hi0, hz0, hz1, hz2⟩ := info_parts mk9
  have := run_make (P := Tryz.prog) w 22 9 i0 _ Tryz.underlying22 hi0 hz0 .i64 .i64 12 12 (by omega) (by omega) (by rw [hz2]; omega) (by omega)
  have hm : madeCells (Value.string ByteArray.empty).cells (Int.toNat 12 * 1) = #[.string ByteArray.empty, .string ByteArray.empty, .string ByteArray.empty, .string ByteArray.empty, .string ByteArray.empty, .string ByteArray.empty, .string ByteArray.empty, .string ByteArray.empty, .string ByteArray.empty, .string ByteArray.empty, .string ByteArray.empty, .string ByteArray.empty] := by kernel_rfl
  rw [this, hz1, hm]
  rfl
theorem cells_xs {W : World} {A : Nat} {xs : List ByteArray} (h : W.heap[A]? = some (.cells (xs.map Value.string).toArray 9)) : ∀ (j : Nat) x, xs[j]? = some x → W.cell? ⟨A, 0 + j, none⟩ = some (.string x) := by
  intro j x hx
  rw [cell_c h, Nat.zero_add]
  simp [hx]
theorem nd_le (u : Nat) : Lib.nDigits u ≤ u + 1 := by
  induction u using Nat.strongRecOn with
  | _ u ih =>
    rw [Lib.nDigits]
    split
    · omega
    · have := ih (u / 10) (by omega); omega
theorem itoS_len (v : Int) : (itoS v).data.toList.length ≤ v.natAbs + 2 := by
  show (Lib.itoa v).length ≤ _
  unfold Lib.itoa
  split
  · have := nd_le v.natAbs
    rw [List.length_cons, Lib.decDigits_length]; omega
  · have := nd_le v.toNat
    rw [Lib.decDigits_length]; omega
set_option maxHeartbeats 12800000 in
set_option maxRecDepth 100000 in
theorem enc_any (r : Rec) (hr : r.Fit) (hsz : r.id.size + r.au.size + r.aq.size + r.iss.size + r.me.size + r.ca.size + r.cu.size ≤ 1000000) (w : World) (hw : KW w) : Calls Tryz.prog 33 #[r.val] w (EncPost r w) := by
  have HC := Lib.hid (fun W => chk_any r hr W)
  have HI := Lib.hid (Fit.ints r)
  have HV := Lib.hid (show encV r = if chkE r = 0 then encS r else ⟨#[]⟩ from rfl)
  have HS := Lib.hid (show encS r = ⟨(Lib.join (r.texts.map (·.data.toList)) [124]).toArray⟩ from rfl)
  have HW := Lib.hid hw
  have HSZ := Lib.hid hsz
  unfold EncPost
  unfold PtPost at HC
  generalize chkE r = CE at *
  generalize encV r = EV at *
  generalize encS r = ES at *
  obtain ⟨K, id, au, aq, iss, me, ca, a, cu, d, c, f⟩ := r
  unfold Rec.val Rec.cells at *
  unfold Rec.texts at HS
  dsimp only at *
  clear hr hw hsz
  cases q : (CE != 0)
  case true =>
    have hne : CE ≠ 0 := by simpa using q
    have HE := Lib.hid (show EV = ⟨#[]⟩ by rw [HV.out, if_neg hne])
    clear hne
    go_enter Tryz.func33, Tryz.ntmps33
    go_wp2_with fail
    refine (HC.out _).mono ?_
    rintro e w1 ⟨rfl, hb⟩
    have HB := Lib.hid (box1 hb).2.2
    clear hb
    go_wp2_with fail
    go_ret2
    exact ⟨by rw [HE.out]; rfl, HB.out⟩
  case false =>
    have h0 : CE = 0 := by simpa using q
    subst h0
    have HE := Lib.hid (show EV = ES by rw [HV.out, if_pos rfl])
    have HIN := Lib.hid (HI.out rfl)
    clear q
    go_enter Tryz.func33, Tryz.ntmps33
    go_wp2_with fail
    refine (HC.out _).mono ?_
    rintro e w1 ⟨rfl, hb⟩
    obtain ⟨k1, hz, hb1⟩ := box1 hb
    have K1 := Lib.hid k1
    have HB := Lib.hid hb1
    have HZ := Lib.hid hz
    have r0 := cell_c (blk_later K1.out (bx w1 (.cells #[.string ByteArray.empty, .string ByteArray.empty, .string ByteArray.empty, .string ByteArray.empty, .string ByteArray.empty, .string ByteArray.empty, .string ByteArray.empty, .string ByteArray.empty, .string ByteArray.empty, .string ByteArray.empty, .string ByteArray.empty, .string ByteArray.empty] 9))) 0
    have hmk := make12 w1
    clear hb hb1 k1 hz
    go_wp2_with fail
    refine (itoa_any K _ (HW.out.below (HB.out.alloc HB.out.size _)).1 (by have := HIN.out; omega) (by have := HIN.out; omega)).mono ?_
    rintro e w2 ⟨rfl, hb⟩
    obtain ⟨kA, hz2, hb2⟩ := box1 hb
    have KA := Lib.hid kA
    have K2 := Lib.hid (blk_later K1.out hb2)
    have HB2 := Lib.hid (HB.out.trans (hb2.mono HB.out.size))
    have HA := Lib.hid (show w.heap.size ≤ w1.heap.size from HB.out.size)
    have HNE := Lib.hid (show w.heap.size ≠ w1.heap.size by have := HZ.out; omega)
    clear hmk hb kA hz2 hb2 r0
    generalize w1.heap.size = A at *
    have r1 := cell_c K2.out 1
    have r2 := cell_c K2.out 2
    have r3 := cell_c K2.out 3
    have r4 := cell_c K2.out 4
    have r5 := cell_c K2.out 5
    have r6 := cell_c K2.out 6
    have r7 := cell_c K2.out 7
    have a0 := cell_c KA.out 0
    have b0 := cell_f KA.out 0
    have a1 := cell_c KA.out 1
    have b1 := cell_f KA.out 1
    have a2 := cell_c KA.out 2
    have b2 := cell_f KA.out 2
    have a3 := cell_c KA.out 3
    have b3 := cell_f KA.out 3
    have a4 := cell_c KA.out 4
    have b4 := cell_f KA.out 4
    have a5 := cell_c KA.out 5
    have b5 := cell_f KA.out 5
    have a6 := cell_c KA.out 6
    have b6 := cell_f KA.out 6
    go_wp2_with fail
    refine (fint_any a _ (HW.out.below (((((((HB2.out.setCell (p := ⟨A, 0, none⟩) HA.out _).setCell (p := ⟨A, 1, none⟩) HA.out _).setCell (p := ⟨A, 2, none⟩) HA.out _).setCell (p := ⟨A, 3, none⟩) HA.out _).setCell (p := ⟨A, 4, none⟩) HA.out _).setCell (p := ⟨A, 5, none⟩) HA.out _).setCell (p := ⟨A, 6, none⟩) HA.out _)).1 (by have := HIN.out; omega) (by have := HIN.out; omega)).mono ?_
    rintro e w3 ⟨rfl, hb⟩
    have HB3 := Lib.hid ((((((((HB2.out.setCell (p := ⟨A, 0, none⟩) HA.out _).setCell (p := ⟨A, 1, none⟩) HA.out _).setCell (p := ⟨A, 2, none⟩) HA.out _).setCell (p := ⟨A, 3, none⟩) HA.out _).setCell (p := ⟨A, 4, none⟩) HA.out _).setCell (p := ⟨A, 5, none⟩) HA.out _).setCell (p := ⟨A, 6, none⟩) HA.out _).trans (hb.mono (((((((HB2.out.setCell (p := ⟨A, 0, none⟩) HA.out _).setCell (p := ⟨A, 1, none⟩) HA.out _).setCell (p := ⟨A, 2, none⟩) HA.out _).setCell (p := ⟨A, 3, none⟩) HA.out _).setCell (p := ⟨A, 4, none⟩) HA.out _).setCell (p := ⟨A, 5, none⟩) HA.out _).setCell (p := ⟨A, 6, none⟩) HA.out _).size))
    have KA3 : Hid (w3.heap[A]? = some (.cells #[.string (itoS K), .string id, .string au, .string aq, .string iss, .string me, .string ca, .string ByteArray.empty, .string ByteArray.empty, .string ByteArray.empty, .string ByteArray.empty, .string ByteArray.empty] 9)) := Lib.hid (blk_later (heap_setCell_same _ A 6 _ _ _ (heap_setCell_same _ A 5 _ _ _ (heap_setCell_same _ A 4 _ _ _ (heap_setCell_same _ A 3 _ _ _ (heap_setCell_same _ A 2 _ _ _ (heap_setCell_same _ A 1 _ _ _ (heap_setCell_same _ A 0 _ _ _ KA.out))))))) hb)
    have K3 : Hid (w3.heap[w.heap.size]? = some (.cells #[.int .i64 K, .string id, .string au, .string aq, .string iss, .string me, .string ca, .int .i64 a, .string cu, .int .i64 d, .int .i64 c, .bool f] 57)) := Lib.hid (blk_later ((heap_setCell_other _ ⟨A, 6, none⟩ _ _ HNE.out).trans ((heap_setCell_other _ ⟨A, 5, none⟩ _ _ HNE.out).trans ((heap_setCell_other _ ⟨A, 4, none⟩ _ _ HNE.out).trans ((heap_setCell_other _ ⟨A, 3, none⟩ _ _ HNE.out).trans ((heap_setCell_other _ ⟨A, 2, none⟩ _ _ HNE.out).trans ((heap_setCell_other _ ⟨A, 1, none⟩ _ _ HNE.out).trans ((heap_setCell_other _ ⟨A, 0, none⟩ _ _ HNE.out).trans K2.out))))))) hb)
    clear hb r1 r2 r3 r4 r5 r6 r7 a0 b0 a1 b1 a2 b2 a3 b3 a4 b4 a5 b5 a6 b6
    have r8 := cell_c K3.out 8
    have r9 := cell_c K3.out 9
    have a7 := cell_c KA3.out 7
    have b7 := cell_f KA3.out 7
    have a8 := cell_c KA3.out 8
    have b8 := cell_f KA3.out 8
    go_wp2_with fail
    refine (itoa_any d _ (HW.out.below ((HB3.out.setCell (p := ⟨A, 7, none⟩) HA.out _).setCell (p := ⟨A, 8, none⟩) HA.out _)).1 (by have := HIN.out; omega) (by have := HIN.out; omega)).mono ?_
    rintro e w4 ⟨rfl, hb⟩
    have HB4 := Lib.hid (((HB3.out.setCell (p := ⟨A, 7, none⟩) HA.out _).setCell (p := ⟨A, 8, none⟩) HA.out _).trans (hb.mono ((HB3.out.setCell (p := ⟨A, 7, none⟩) HA.out _).setCell (p := ⟨A, 8, none⟩) HA.out _).size))
    have KA4 : Hid (w4.heap[A]? = some (.cells #[.string (itoS K), .string id, .string au, .string aq, .string iss, .string me, .string ca, .string (itoS a), .string cu, .string ByteArray.empty, .string ByteArray.empty, .string ByteArray.empty] 9)) := Lib.hid (blk_later (heap_setCell_same _ A 8 _ _ _ (heap_setCell_same _ A 7 _ _ _ KA3.out)) hb)
    have K4 : Hid (w4.heap[w.heap.size]? = some (.cells #[.int .i64 K, .string id, .string au, .string aq, .string iss, .string me, .string ca, .int .i64 a, .string cu, .int .i64 d, .int .i64 c, .bool f] 57)) := Lib.hid (blk_later ((heap_setCell_other _ ⟨A, 8, none⟩ _ _ HNE.out).trans ((heap_setCell_other _ ⟨A, 7, none⟩ _ _ HNE.out).trans K3.out)) hb)
    clear hb r8 r9 a7 b7 a8 b8
    have r10 := cell_c K4.out 10
    have a9 := cell_c KA4.out 9
    have b9 := cell_f KA4.out 9
    go_wp2_with fail
    refine (itoa_any c _ (HW.out.below (HB4.out.setCell (p := ⟨A, 9, none⟩) HA.out _)).1 (by have := HIN.out; omega) (by have := HIN.out; omega)).mono ?_
    rintro e w5 ⟨rfl, hb⟩
    have HB5 := Lib.hid ((HB4.out.setCell (p := ⟨A, 9, none⟩) HA.out _).trans (hb.mono (HB4.out.setCell (p := ⟨A, 9, none⟩) HA.out _).size))
    have KA5 : Hid (w5.heap[A]? = some (.cells #[.string (itoS K), .string id, .string au, .string aq, .string iss, .string me, .string ca, .string (itoS a), .string cu, .string (itoS d), .string ByteArray.empty, .string ByteArray.empty] 9)) := Lib.hid (blk_later (heap_setCell_same _ A 9 _ _ _ KA4.out) hb)
    have K5 : Hid (w5.heap[w.heap.size]? = some (.cells #[.int .i64 K, .string id, .string au, .string aq, .string iss, .string me, .string ca, .int .i64 a, .string cu, .int .i64 d, .int .i64 c, .bool f] 57)) := Lib.hid (blk_later ((heap_setCell_other _ ⟨A, 9, none⟩ _ _ HNE.out).trans K4.out) hb)
    clear hb r10 a9 b9
    have HJ : Hid (∀ (W : World) (xs : List ByteArray), xs.length = 12 → (∀ (j : Nat) x, xs[j]? = some x → W.cell? ⟨A, 0 + j, none⟩ = some (.string x)) → A < W.heap.size → (Lib.join (xs.map (·.data.toList)) [124]).length ≤ 140737488355328 →
        Calls Tryz.prog 80 #[.slice (some ⟨A, 0, none⟩) 12 12, .string ⟨#[124]⟩] W fun e w' => e = .returned (.string ⟨(Lib.join (xs.map (·.data.toList)) [124]).toArray⟩) ∧ Below W.heap.size W w') := Lib.hid (fun W xs hl hcells hA hlen => by
      have h := Tryz.strings_Join A 0 12 xs ⟨#[124]⟩ W hcells hA (by omega) (by omega) hlen
      rw [hl] at h
      exact h)
    have HAL := Lib.hid (show A < w5.heap.size from World.block_lt_of_cell? _ _ (cell_c KA5.out 0))
    have HLEN : Hid (∀ s : ByteArray, s.size ≤ 1 → (Lib.join ([itoS K, id, au, aq, iss, me, ca, itoS a, cu, itoS d, itoS c, s].map (·.data.toList)) [124]).length ≤ 140737488355328) := Lib.hid (fun s hs => by
      have h1 := itoS_len K
      have h2 := itoS_len a
      have h3 := itoS_len d
      have h4 := itoS_len c
      have h5 := HIN.out
      have h6 := HSZ.out
      rw [List.map_cons, Lib.join_length]
      simp [Lib.lens] at *
      omega)
    cases f with
    | false =>
      have r11 := cell_c K5.out 11
      have a10 := cell_c KA5.out 10
      have b10 := cell_f KA5.out 10
      have a11 := cell_c KA5.out 11
      have b11 := cell_f KA5.out 11
      have n1 : w.heap.size ≠ A := HNE.out
      have n2 : A ≠ w.heap.size := fun h => HNE.out h.symm
      go_wp2_with fail
      refine (HJ.out _ [itoS K, id, au, aq, iss, me, ca, itoS a, cu, itoS d, itoS c, ⟨#[48]⟩] rfl (cells_xs (heap_setCell_same _ A 11 _ _ _ (heap_setCell_same _ A 10 _ _ _ KA5.out))) (by simp only [World.setCell, Array.size_modify]; exact HAL.out) (HLEN.out _ (by decide))).mono ?_
      rintro e w6 ⟨rfl, hb⟩
      have HB6 := Lib.hid (((HB5.out.setCell (p := ⟨A, 10, none⟩) HA.out _).setCell (p := ⟨A, 11, none⟩) HA.out _).trans (hb.mono ((HB5.out.setCell (p := ⟨A, 10, none⟩) HA.out _).setCell (p := ⟨A, 11, none⟩) HA.out _).size))
      clear hb r11 a10 b10 a11 b11
      go_wp2_with fail
      go_ret2
      exact ⟨by rw [HE.out, HS.out]; rfl, HB6.out⟩
    | true =>
      have r11 := cell_c K5.out 11
      have a10 := cell_c KA5.out 10
      have b10 := cell_f KA5.out 10
      have a11 := cell_c KA5.out 11
      have b11 := cell_f KA5.out 11
      have n1 : w.heap.size ≠ A := HNE.out
      have n2 : A ≠ w.heap.size := fun h => HNE.out h.symm
      go_wp2_with fail
      refine (HJ.out _ [itoS K, id, au, aq, iss, me, ca, itoS a, cu, itoS d, itoS c, ⟨#[49]⟩] rfl (cells_xs (heap_setCell_same _ A 11 _ _ _ (heap_setCell_same _ A 11 _ _ _ (heap_setCell_same _ A 10 _ _ _ KA5.out)))) (by simp only [World.setCell, Array.size_modify]; exact HAL.out) (HLEN.out _ (by decide))).mono ?_
      rintro e w6 ⟨rfl, hb⟩
      have HB6 := Lib.hid ((((HB5.out.setCell (p := ⟨A, 10, none⟩) HA.out _).setCell (p := ⟨A, 11, none⟩) HA.out _).setCell (p := ⟨A, 11, none⟩) HA.out _).trans (hb.mono (((HB5.out.setCell (p := ⟨A, 10, none⟩) HA.out _).setCell (p := ⟨A, 11, none⟩) HA.out _).setCell (p := ⟨A, 11, none⟩) HA.out _).size))
      clear hb r11 a10 b10 a11 b11
      go_wp2_with fail
      go_ret2
      exact ⟨by rw [HE.out, HS.out]; rfl, HB6.out⟩
end Go.Proofs.YthflmdgfenojcaaGreatDoor
namespace Go.Proofs.YthflmdgfenojcaaGreatDoor
set_option linter.unusedVariables false
open Go.RowKit Go.Sort
def shortB (r : Rec) : Bool := decide (r.id.size ≤ 100) && (decide (r.au.size ≤ 100) && (decide (r.aq.size ≤ 100) && (decide (r.iss.size ≤ 100) && (decide (r.me.size ≤ 100) && (decide (r.ca.size ≤ 100) && decide (r.cu.size ≤ 100))))))
set_option maxRecDepth 100000 in
set_option maxHeartbeats 3200000 in
theorem short_any (r : Rec) (w : World) : Calls Tryz.prog 31 #[r.val] w (BPost (shortB r) w) := by
  have HS : Hid (shortB r = (decide (r.id.size ≤ 100) && (decide (r.au.size ≤ 100) && (decide (r.aq.size ≤ 100) && (decide (r.iss.size ≤ 100) && (decide (r.me.size ≤ 100) && (decide (r.ca.size ≤ 100) && decide (r.cu.size ≤ 100)))))))) := Lib.hid rfl
  unfold BPost
  generalize shortB r = S at *
  obtain ⟨K, id, au, aq, iss, me, ca, x, cu, d, c, f⟩ := r
  have HB := Lib.hid (bx w (.cells #[.int .i64 K, .string id, .string au, .string aq, .string iss, .string me, .string ca, .int .i64 x, .string cu, .int .i64 d, .int .i64 c, .bool f] 57))
  unfold Rec.val Rec.cells
  dsimp only at *
  have hc : (¬ id.size ≤ 100) ∨ (id.size ≤ 100 ∧ ¬ au.size ≤ 100) ∨ (id.size ≤ 100 ∧ au.size ≤ 100 ∧ ¬ aq.size ≤ 100) ∨ (id.size ≤ 100 ∧ au.size ≤ 100 ∧ aq.size ≤ 100 ∧ ¬ iss.size ≤ 100) ∨ (id.size ≤ 100 ∧ au.size ≤ 100 ∧ aq.size ≤ 100 ∧ iss.size ≤ 100 ∧ ¬ me.size ≤ 100) ∨ (id.size ≤ 100 ∧ au.size ≤ 100 ∧ aq.size ≤ 100 ∧ iss.size ≤ 100 ∧ me.size ≤ 100 ∧ ¬ ca.size ≤ 100) ∨ (id.size ≤ 100 ∧ au.size ≤ 100 ∧ aq.size ≤ 100 ∧ iss.size ≤ 100 ∧ me.size ≤ 100 ∧ ca.size ≤ 100 ∧ ¬ cu.size ≤ 100) ∨ (id.size ≤ 100 ∧ au.size ≤ 100 ∧ aq.size ≤ 100 ∧ iss.size ≤ 100 ∧ me.size ≤ 100 ∧ ca.size ≤ 100 ∧ cu.size ≤ 100) := by omega
  rcases hc with h0 | ⟨h0, h1⟩ | ⟨h0, h1, h2⟩ | ⟨h0, h1, h2, h3⟩ | ⟨h0, h1, h2, h3, h4⟩ | ⟨h0, h1, h2, h3, h4, h5⟩ | ⟨h0, h1, h2, h3, h4, h5, h6⟩ | ⟨h0, h1, h2, h3, h4, h5, h6⟩
  iterate 6
    · have HS2 := Lib.hid (show S = false by rw [HS.out]; simp [*])
      go_enter Tryz.func31, Tryz.ntmps31
      go_wp2_with fail
      go_ret
      exact ⟨by rw [HS2.out]; rfl, HB.out⟩
  · have HS2 := Lib.hid (show S = false by rw [HS.out]; simp [*])
    have hd : decide ((cu.size : Int) ≤ 100) = false := decide_eq_false (by omega)
    go_enter Tryz.func31, Tryz.ntmps31
    go_wp2_with fail
    go_ret
    exact ⟨by rw [HS2.out]; rfl, HB.out⟩
  · have HS2 := Lib.hid (show S = true by rw [HS.out]; simp [*])
    have hd : decide ((cu.size : Int) ≤ 100) = true := decide_eq_true (by omega)
    go_enter Tryz.func31, Tryz.ntmps31
    go_wp2_with fail
    go_ret
    exact ⟨by rw [HS2.out]; rfl, HB.out⟩
/-- The debit of a record. -/
def debV (r : Rec) : Int := if chkE r = 0 then (if r.k = 1 ∨ r.k = 4 then r.a else -r.a) else 0
def IPost (v : Int) (w : World) (e : Ending) (w' : World) : Prop := e = .returned (.int .i64 v) ∧ Below w.heap.size w w'
set_option maxRecDepth 100000 in
set_option maxHeartbeats 3200000 in
theorem debit_any (r : Rec) (hr : r.Fit) (w : World) : Calls Tryz.prog 37 #[r.val] w (IPost (debV r) w) := by
  have HD : Hid (debV r = if chkE r = 0 then (if r.k = 1 ∨ r.k = 4 then r.a else -r.a) else 0) := Lib.hid rfl
  have HC := Lib.hid (fun W => chk_any r hr W)
  have HI := Lib.hid (Fit.ints r)
  unfold IPost
  unfold PtPost at HC
  generalize debV r = D at *
  generalize chkE r = CE at *
  clear hr
  obtain ⟨K, id, au, aq, iss, me, ca, a, cu, d, c, f⟩ := r
  unfold Rec.val Rec.cells at *
  dsimp only at *
  cases q : (CE != 0)
  case true =>
    have HE := Lib.hid (show D = 0 by rw [HD.out, if_neg (by simpa using q)])
    go_enter Tryz.func37, Tryz.ntmps37
    go_wp2_with fail
    refine (HC.out _).mono ?_
    rintro e w1 ⟨rfl, hb⟩
    have HB := Lib.hid (box1 hb).2.2
    clear hb
    go_wp2_with fail
    go_ret
    exact ⟨by rw [HE.out]; rfl, HB.out⟩
  case false =>
    have h0 : CE = 0 := by simpa using q
    subst h0
    have hi := HI.out rfl
    have hc : K = 1 ∨ K = 4 ∨ (K = 2 ∨ K = 3) := by omega
    have a1 : 1 ≤ a := hi.2.2.1
    have a2 : a ≤ 999999999999 := hi.2.2.2.1
    clear q hi
    rcases hc with rfl | rfl | hk
    · have HE := Lib.hid (show D = a by rw [HD.out, if_pos rfl, if_pos (by omega)])
      go_enter Tryz.func37, Tryz.ntmps37
      go_wp2_with fail
      refine (HC.out _).mono ?_
      rintro e w1 ⟨rfl, hb⟩
      have k0 := cell_c (box1 hb).1 0
      have k7 := cell_c (box1 hb).1 7
      have HB := Lib.hid (box1 hb).2.2
      clear hb
      go_wp2_with fail
      go_ret
      exact ⟨by rw [HE.out]; rfl, HB.out⟩
    · have HE := Lib.hid (show D = a by rw [HD.out, if_pos rfl, if_pos (by omega)])
      go_enter Tryz.func37, Tryz.ntmps37
      go_wp2_with fail
      refine (HC.out _).mono ?_
      rintro e w1 ⟨rfl, hb⟩
      have k0 := cell_c (box1 hb).1 0
      have k7 := cell_c (box1 hb).1 7
      have HB := Lib.hid (box1 hb).2.2
      clear hb
      go_wp2_with fail
      go_ret
      exact ⟨by rw [HE.out]; rfl, HB.out⟩
    · have HE := Lib.hid (show D = -a by rw [HD.out, if_pos rfl, if_neg (by omega)])
      have b1 : (K == 1) = false := by simp; omega
      have b4 : (K == 4) = false := by simp; omega
      clear hk
      go_enter Tryz.func37, Tryz.ntmps37
      go_wp2_with fail
      refine (HC.out _).mono ?_
      rintro e w1 ⟨rfl, hb⟩
      have k0 := cell_c (box1 hb).1 0
      have k7 := cell_c (box1 hb).1 7
      have HB := Lib.hid (box1 hb).2.2
      clear hb
      go_wp2_with fail
      go_ret
      exact ⟨by rw [HE.out]; rfl, HB.out⟩
def sampR (k : Int) : Rec := ⟨k, ⟨#[48, 48, 48, 48, 48, 49, 48, 48, 48, 48, 48, 55, 45, 49]⟩, ⟨#[48, 48, 48, 48, 48, 49, 48, 48, 48, 48, 48, 55]⟩, ⟨#[115, 104, 111, 112, 98, 97, 110, 107]⟩, ⟨#[104, 111, 109, 101, 98, 97, 110, 107]⟩, ⟨#[83, 72, 79, 80, 49]⟩, ⟨#[52, 48, 48, 48, 48, 48, 48, 48, 48, 48, 48, 48, 48, 48, 55, 55]⟩, 1000, ⟨#[69, 85, 82]⟩, 12, 5411, true⟩
set_option maxRecDepth 100000 in
set_option maxHeartbeats 1600000 in
theorem sample_any (k : Int) (w : World) : Calls Tryz.prog 76 #[.int .i64 k] w fun e w' => e = .returned (sampR k).val ∧ Below w.heap.size w w' := by
  have HZ := Lib.hid (heap_alloc_new w (.cells zrec.cells 57))
  have HB := Lib.hid (bx w (.cells zrec.cells 57))
  go_enter Tryz.func76, Tryz.ntmps76
  go_wp2_with (refine wpList_store_row rfl 57 _ _ rfl w.heap.size (sampR k).cells rfl rfl 57 _ HZ.out (info25 _) rfl (rec_one _) ?_)
  refine bodyPost_ret (v := (sampR k).val) ?_ rfl ⟨rfl, below_setRow HB.out (Nat.le_refl _) _⟩
  exact results_cell_row (show Tryz.f76.results = #[.cell 2 57] by kernel_rfl) _ _ w.heap.size 57 (sampR k).cells (0, 0) _ rfl (setRow_heap _ _ _ _ _ _ HZ.out) Tryz.underlying57 rfl (info25 _)
theorem name3 (w : World) : Calls Tryz.prog 39 #[.int .i64 3] w fun e w' => e = .returned (.string ⟨#[99, 104, 97, 114, 103, 101, 98, 97, 99, 107]⟩) ∧ w = w' := by
  go_enter Tryz.func39, Tryz.ntmps39
  go_wp2_with fail
  go_ret
  exact ⟨rfl, rfl⟩
end Go.Proofs.YthflmdgfenojcaaGreatDoor
namespace Go.Proofs.YthflmdgfenojcaaGreatDoor
set_option linter.unusedVariables false
open Go.RowKit
theorem zrec_bad {s : ByteArray} (h : decE s ≠ 0) : decV s = zrec := by unfold decV; rw [if_neg h]
end Go.Proofs.YthflmdgfenojcaaGreatDoor
namespace Go.Proofs.YthflmdgfenojcaaGreatDoor
set_option linter.unusedVariables false
open Go.RowKit
def joinS (L : List ByteArray) : ByteArray := ⟨(Lib.join (L.map (·.data.toList)) [124]).toArray⟩
theorem cut_list (x : ByteArray) (L : List ByteArray) (h : ∀ y ∈ x :: L, ∀ b ∈ y.data.toList, b ≠ 124) : cutS (joinS (x :: L)) = x :: L := by
  apply map_inj
  rw [cutS_data]
  show cutL 124 (Lib.join ((x :: L).map (·.data.toList)) [124]) = _
  refine cut_join 124 _ _ ?_
  intro y hy
  obtain ⟨z, hz, rfl⟩ := List.mem_map.1 (show y ∈ (x :: L).map (·.data.toList) from hy)
  exact h z hz
theorem ito1 : itoS 1 = ⟨#[49]⟩ := by simp [itoS, Lib.itoa, Lib.decDigits]
theorem ito12 : itoS 12 = ⟨#[49, 50]⟩ := by simp [itoS, Lib.itoa, Lib.decDigits]
theorem ito1000 : itoS 1000 = ⟨#[49, 48, 48, 48]⟩ := by simp [itoS, Lib.itoa, Lib.decDigits]
theorem ito5411 : itoS 5411 = ⟨#[53, 52, 49, 49]⟩ := by simp [itoS, Lib.itoa, Lib.decDigits]
theorem samp_texts : (sampR 1).texts = [⟨#[49]⟩, (sampR 1).id, (sampR 1).au, (sampR 1).aq, (sampR 1).iss, (sampR 1).me, (sampR 1).ca, ⟨#[49, 48, 48, 48]⟩, (sampR 1).cu, ⟨#[49, 50]⟩, ⟨#[53, 52, 49, 49]⟩, ⟨#[49]⟩] := by
  show [itoS 1, _, _, _, _, _, _, itoS 1000, _, itoS 12, itoS 5411, finS true] = _
  rw [ito1, ito1000, ito12, ito5411]; rfl
def txt1 : ByteArray := ⟨#[49, 124, 48, 48, 48, 48, 48, 49, 48, 48, 48, 48, 48, 55, 45, 49, 124, 48, 48, 48, 48, 48, 49, 48, 48, 48, 48, 48, 55, 124, 115, 104, 111, 112, 98, 97, 110, 107, 124, 104, 111, 109, 101, 98, 97, 110, 107, 124, 83, 72, 79, 80, 49, 124, 52, 48, 48, 48, 48, 48, 48, 48, 48, 48, 48, 48, 48, 48, 55, 55, 124, 49, 48, 48, 48, 124, 69, 85, 82, 124, 49, 50, 124, 53, 52, 49, 49, 124, 49]⟩
def txt2 : ByteArray := ⟨#[49, 124, 48, 48, 48, 48, 48, 49, 48, 48, 48, 48, 48, 55, 45, 49, 124, 48, 48, 48, 48, 48, 49, 48, 48, 48, 48, 48, 55, 124, 115, 104, 111, 112, 98, 97, 110, 107, 124, 104, 111, 109, 101, 98, 97, 110, 107, 124, 83, 72, 79, 80, 49, 124, 52, 48, 48, 48, 48, 48, 48, 48, 48, 48, 48, 48, 48, 48, 55, 55, 124, 48, 49, 48, 48, 48, 124, 69, 85, 82, 124, 49, 50, 124, 53, 52, 49, 49, 124, 49]⟩
def txt3 : ByteArray := ⟨#[49, 124, 48, 48, 48, 48, 48, 49, 48, 48, 48, 48, 48, 55, 45, 49, 124, 48, 48, 48, 48, 48, 49, 48, 48, 48, 48, 48, 55, 124, 115, 104, 111, 112, 98, 97, 110, 107, 124, 104, 111, 109, 101, 98, 97, 110, 107, 124, 83, 72, 79, 80, 49, 124, 52, 48, 48, 48, 48, 48, 48, 48, 48, 48, 48, 48, 48, 48, 55, 55, 124, 49, 48, 48, 48, 124, 101, 117, 114, 124, 49, 50, 124, 53, 52, 49, 49, 124, 49]⟩
theorem enc1 : encS (sampR 1) = txt1 := by
  unfold encS
  rw [samp_texts]
  kernel_rfl
theorem chk1 : chkE (sampR 1) = 0 := by kernel_rfl
theorem chk2 : chkE (sampR 2) = 0 := by kernel_rfl
theorem chk5 : chkE (sampR 5) = 4 := by kernel_rfl
def list2 : List ByteArray := [⟨#[49]⟩, (sampR 1).id, (sampR 1).au, (sampR 1).aq, (sampR 1).iss, (sampR 1).me, (sampR 1).ca, ⟨#[48, 49, 48, 48, 48]⟩, (sampR 1).cu, ⟨#[49, 50]⟩, ⟨#[53, 52, 49, 49]⟩, ⟨#[49]⟩]
def rec3 : Rec := { sampR 1 with cu := ⟨#[101, 117, 114]⟩ }
def list3 : List ByteArray := [⟨#[49]⟩, (sampR 1).id, (sampR 1).au, (sampR 1).aq, (sampR 1).iss, (sampR 1).me, (sampR 1).ca, ⟨#[49, 48, 48, 48]⟩, ⟨#[101, 117, 114]⟩, ⟨#[49, 50]⟩, ⟨#[53, 52, 49, 49]⟩, ⟨#[49]⟩]
theorem txt2_join : joinS list2 = txt2 := by kernel_rfl
theorem txt3_join : joinS list3 = txt3 := by kernel_rfl
theorem cut2 : cutS txt2 = list2 := by
  rw [← txt2_join]
  exact cut_list _ _ (by decide)
theorem cut3 : cutS txt3 = list3 := by
  rw [← txt3_join]
  exact cut_list _ _ (by decide)
theorem num01000 : numOK ⟨#[48, 49, 48, 48, 48]⟩ = false := by
  cases h : numOK ⟨#[48, 49, 48, 48, 48]⟩ with
  | false => rfl
  | true =>
    have h1 : numR ⟨#[48, 49, 48, 48, 48]⟩ = some (numV ⟨#[48, 49, 48, 48, 48]⟩) := by
      unfold numOK at h
      unfold numV
      cases hn : numR ⟨#[48, 49, 48, 48, 48]⟩ with
      | none => rw [hn] at h; cases h
      | some v => rfl
    obtain ⟨h2, h3⟩ := numR_some h1
    have h4 : Lib.parseIntB 64 (ByteArray.data ⟨#[48, 49, 48, 48, 48]⟩).toList = .ok 1000 := by decide
    rw [h4] at h2
    injection h2 with h2
    rw [← h2, ito1000] at h3
    exact absurd h3 (by decide)
theorem dec2 : decE txt2 = 2 := by
  unfold decE
  rw [cut2, if_neg]
  unfold formB numsB
  rw [show prt list2 7 = ⟨#[48, 49, 48, 48, 48]⟩ from rfl, num01000]
  simp
theorem nums {s : ByteArray} {v : Int} (h : itoS v = s) (hr : -9223372036854775808 ≤ v ∧ v ≤ 9223372036854775807) : numV s = v ∧ numOK s = true := by rw [← h]; exact numV_ito hr
theorem dec3 : decE txt3 = 11 := by
  have n0 := nums ito1 (by decide)
  have n7 := nums ito1000 (by decide)
  have n9 := nums ito12 (by decide)
  have n10 := nums ito5411 (by decide)
  have hf : formB list3 = true := by
    unfold formB numsB
    rw [show prt list3 0 = ⟨#[49]⟩ from rfl, show prt list3 7 = ⟨#[49, 48, 48, 48]⟩ from rfl, show prt list3 9 = ⟨#[49, 50]⟩ from rfl, show prt list3 10 = ⟨#[53, 52, 49, 49]⟩ from rfl, n0.2, n7.2, n9.2, n10.2]
    decide
  have hr : recL list3 = rec3 := by
    unfold recL
    rw [show prt list3 0 = ⟨#[49]⟩ from rfl, show prt list3 7 = ⟨#[49, 48, 48, 48]⟩ from rfl, show prt list3 9 = ⟨#[49, 50]⟩ from rfl, show prt list3 10 = ⟨#[53, 52, 49, 49]⟩ from rfl, n0.1, n7.1, n9.1, n10.1]
    rw [show decide (prt list3 11 = oneS) = true by decide]
    rfl
  have hc : chkE rec3 = 11 := by kernel_rfl
  unfold decE
  rw [cut3, if_pos hf, hr, hc]
theorem dec1 : decE txt1 = 0 ∧ decV txt1 = sampR 1 := by rw [← enc1]; exact dec_enc chk1
theorem encv1 : encV (sampR 1) = txt1 := by unfold encV; rw [if_pos chk1, enc1]
theorem deb1 : debV (sampR 1) = 1000 := by unfold debV; rw [if_pos chk1]; rfl
theorem deb2 : debV (sampR 2) = -1000 := by unfold debV; rw [if_pos chk2]; rfl
theorem samp_fit (k : Int) : (sampR k).Fit := by
  have h : ∀ n, n ≤ 100 → n ≤ maxLen := fun n q => by have : maxLen = 2 ^ 63 - 1 := rfl; omega
  exact ⟨h _ (show 14 ≤ 100 by decide), h _ (show 12 ≤ 100 by decide), h _ (show 8 ≤ 100 by decide), h _ (show 8 ≤ 100 by decide), h _ (show 5 ≤ 100 by decide), h _ (show 16 ≤ 100 by decide), h _ (show 3 ≤ 100 by decide)⟩
end Go.Proofs.YthflmdgfenojcaaGreatDoor
namespace Go.Proofs.YthflmdgfenojcaaGreatDoor
set_option linter.unusedVariables false
open Go.RowKit Go.Sort
set_option maxRecDepth 100000 in
theorem eq_same (r : Rec) (w : World) : (binOp .eql 57 r.val r.val).run Tryz.prog w = .ok (.bool true) w := by
  unfold Rec.val Rec.cells
  rw [run_eql_struct]
  rw [run_equalIn_struct _ _ _ _ _ Tryz.underlying57 Tryz.stoodInHeld57]
  go_simp
set_option maxRecDepth 100000 in
set_option maxHeartbeats 12800000 in
theorem awake_any (w : World) (hw : KW w) : Calls Tryz.prog 32 #[] w fun e w' => e = .returned (.bool true) ∧ Below w.heap.size w w' := by
  have HKW := Lib.hid hw
  have HS1 := Lib.hid (fun W => sample_any 1 W)
  have HS2 := Lib.hid (fun W => sample_any 2 W)
  have HS5 := Lib.hid (fun W => sample_any 5 W)
  have HE := Lib.hid (fun W hW => enc_any (sampR 1) (samp_fit 1) (by decide) W hW)
  have HD1 := Lib.hid (fun W hW => dec_any txt1 W hW (by decide))
  have HD2 := Lib.hid (fun W hW => dec_any txt2 W hW (by decide))
  have HD3 := Lib.hid (fun W hW => dec_any txt3 W hW (by decide))
  have HB1 := Lib.hid (fun W => debit_any (sampR 1) (samp_fit 1) W)
  have HB2 := Lib.hid (fun W => debit_any (sampR 2) (samp_fit 2) W)
  have HC5 := Lib.hid (fun W => chk_any (sampR 5) (samp_fit 5) W)
  have HN := Lib.hid (fun W => name3 W)
  have HV2 := Lib.hid (zrec_bad (s := txt2) (by rw [dec2]; decide))
  have HV3 := Lib.hid (zrec_bad (s := txt3) (by rw [dec3]; decide))
  have heq := fun W => eq_same (sampR 1) W
  unfold EncPost at HE
  unfold DecPost at HD1 HD2 HD3
  unfold IPost at HB1 HB2
  unfold PtPost at HC5
  rw [encv1, chk1] at HE
  rw [dec1.1, dec1.2] at HD1
  rw [dec2, HV2.out] at HD2
  rw [dec3, HV3.out] at HD3
  rw [deb1] at HB1
  rw [deb2] at HB2
  rw [chk5] at HC5
  generalize (sampR 2).val = v2 at *
  generalize (sampR 5).val = v5 at *
  generalize sampR 1 = r1 at *
  generalize zrec = zr at HD2 HD3
  obtain ⟨zK, zid, zau, zaq, ziss, zme, zca, za, zcu, zd, zc, zf⟩ := zr
  obtain ⟨K, id, au, aq, iss, me, ca, a, cu, d, c, f⟩ := r1
  unfold Rec.val Rec.cells at *
  dsimp only at *
  clear hw HV2 HV3
  go_enter Tryz.func32, Tryz.ntmps32
  go_name_bytes_deep 40 T1 hT1
  have e1 : T1 = txt1 := by rw [← hT1]; rfl
  subst e1
  clear hT1
  go_name_bytes_deep 40 T2 hT2
  have e2 : T2 = txt2 := by rw [← hT2]; rfl
  subst e2
  clear hT2
  go_name_bytes_deep 40 T3 hT3
  have e3 : T3 = txt3 := by rw [← hT3]; rfl
  subst e3
  clear hT3
  go_wp2_with fail
  refine (HS1.out _).mono ?_
  rintro e w1 ⟨rfl, hb⟩
  have HB := Lib.hid hb
  clear hb
  go_wp2_with fail
  refine (HE.out _ (HKW.out.below HB.out)).mono ?_
  rintro e w2 ⟨rfl, hb⟩
  have HB := Lib.hid (HB.out.trans (hb.mono HB.out.size))
  clear hb
  go_wp2_with fail
  refine (HD1.out _ (HKW.out.below HB.out)).mono ?_
  rintro e w3 ⟨rfl, hb⟩
  have HB := Lib.hid (HB.out.trans (hb.mono HB.out.size))
  clear hb
  go_wp2_with fail
  have HB := Lib.hid (HB.out.trans ((bx w3 (.cells #[.int .i64 K, .string id, .string au, .string aq, .string iss, .string me, .string ca, .int .i64 a, .string cu, .int .i64 d, .int .i64 c, .bool f] 57)).mono HB.out.size))
  have HK := Lib.hid (heap_alloc_new w3 (.cells #[.int .i64 K, .string id, .string au, .string aq, .string iss, .string me, .string ca, .int .i64 a, .string cu, .int .i64 d, .int .i64 c, .bool f] 57))
  generalize w3.heap.size = X at *
  refine (HD2.out _ (HKW.out.below HB.out)).mono ?_
  rintro e w4 ⟨rfl, hb⟩
  have HB := Lib.hid (HB.out.trans (hb.mono HB.out.size))
  have HK := Lib.hid (blk_later HK.out hb)
  clear hb
  go_wp2_with fail
  have HB := Lib.hid (HB.out.trans ((bx w4 (.cells #[.int .i64 zK, .string zid, .string zau, .string zaq, .string ziss, .string zme, .string zca, .int .i64 za, .string zcu, .int .i64 zd, .int .i64 zc, .bool zf] 57)).mono HB.out.size))
  have HK := Lib.hid (blk_later HK.out (bx w4 (.cells #[.int .i64 zK, .string zid, .string zau, .string zaq, .string ziss, .string zme, .string zca, .int .i64 za, .string zcu, .int .i64 zd, .int .i64 zc, .bool zf] 57)))
  refine (HD3.out _ (HKW.out.below HB.out)).mono ?_
  rintro e w5 ⟨rfl, hb⟩
  have HB := Lib.hid (HB.out.trans (hb.mono HB.out.size))
  have HK := Lib.hid (blk_later HK.out hb)
  clear hb
  go_wp2_with fail
  have HB := Lib.hid (HB.out.trans ((bx w5 (.cells #[.int .i64 zK, .string zid, .string zau, .string zaq, .string ziss, .string zme, .string zca, .int .i64 za, .string zcu, .int .i64 zd, .int .i64 zc, .bool zf] 57)).mono HB.out.size))
  have HK := Lib.hid (blk_later HK.out (bx w5 (.cells #[.int .i64 zK, .string zid, .string zau, .string zaq, .string ziss, .string zme, .string zca, .int .i64 za, .string zcu, .int .i64 zd, .int .i64 zc, .bool zf] 57)))
  generalize w5.alloc (.cells #[.int .i64 zK, .string zid, .string zau, .string zaq, .string ziss, .string zme, .string zca, .int .i64 za, .string zcu, .int .i64 zd, .int .i64 zc, .bool zf] 57) = W at *
  have HBW : Hid (Below W.heap.size W W.drew) := Lib.hid ((Below.refl _ _).drew)
  go_region_held3 (fun w' => Below W.heap.size W w' ∧ w'.cell? ⟨X, 0, none⟩ = some (.int .i64 K) ∧ w'.cell? ⟨X, 1, none⟩ = some (.string id) ∧ w'.cell? ⟨X, 2, none⟩ = some (.string au) ∧ w'.cell? ⟨X, 3, none⟩ = some (.string aq) ∧ w'.cell? ⟨X, 4, none⟩ = some (.string iss) ∧ w'.cell? ⟨X, 5, none⟩ = some (.string me) ∧ w'.cell? ⟨X, 6, none⟩ = some (.string ca) ∧ w'.cell? ⟨X, 7, none⟩ = some (.int .i64 a) ∧ w'.cell? ⟨X, 8, none⟩ = some (.string cu) ∧ w'.cell? ⟨X, 9, none⟩ = some (.int .i64 d) ∧ w'.cell? ⟨X, 10, none⟩ = some (.int .i64 c) ∧ w'.cell? ⟨X, 11, none⟩ = some (.bool f))
    (exact row12 HBW.out HK.out)
    (first
      | (go_at_call 76; (first | (with_reducible refine (HS1.out _).mono ?_) | (with_reducible refine (HS2.out _).mono ?_) | (with_reducible refine (HS5.out _).mono ?_)); rintro e w' ⟨rfl, hb⟩; have HBW := Lib.hid (HBW.out.trans (hb.mono HBW.out.size)); clear hb)
      | (go_at_call 37; (first | (with_reducible refine (HB1.out _).mono ?_) | (with_reducible refine (HB2.out _).mono ?_)); rintro e w' ⟨rfl, hb⟩; have HBW := Lib.hid (HBW.out.trans (hb.mono HBW.out.size)); clear hb)
      | (go_at_call 39; refine (HN.out _).mono ?_; rintro e w' ⟨rfl, rfl⟩)
      | (go_at_call 35; refine (HC5.out _).mono ?_; rintro e w' ⟨rfl, hb⟩; have HBW := Lib.hid (HBW.out.trans (hb.mono HBW.out.size)); clear hb))
  go_wp2_with fail
  go_ret
  exact ⟨rfl, HB.out.trans (HBW.out.mono HB.out.size)⟩
end Go.Proofs.YthflmdgfenojcaaGreatDoor
namespace Go.Proofs.YthflmdgfenojcaaGreatDoor
set_option linter.unusedVariables false
open Go.RowKit Go.Sort
set_option maxRecDepth 100000 in
set_option maxHeartbeats 3200000 in
theorem rdebit_any (r : Rec) (hr : r.Fit) (w : World) : Calls Tryz.prog 38 #[r.val] w (IPost (debV r) w) := by
  have HD : Hid (debV r = if chkE r = 0 then (if r.k = 1 ∨ r.k = 4 then r.a else -r.a) else 0) := Lib.hid rfl
  have HC := Lib.hid (fun W => rchk_any r hr W)
  have HI := Lib.hid (Fit.ints r)
  unfold IPost
  unfold PtPost at HC
  generalize debV r = D at *
  generalize chkE r = CE at *
  clear hr
  obtain ⟨K, id, au, aq, iss, me, ca, a, cu, d, c, f⟩ := r
  unfold Rec.val Rec.cells at *
  dsimp only at *
  cases q : (CE != 0)
  case true =>
    have HE := Lib.hid (show D = 0 by rw [HD.out, if_neg (by simpa using q)])
    go_enter Tryz.func38, Tryz.ntmps38
    go_wp2_with fail
    refine (HC.out _).mono ?_
    rintro e w1 ⟨rfl, hb⟩
    have HB := Lib.hid (box1 hb).2.2
    clear hb
    go_wp2_with fail
    go_ret
    exact ⟨by rw [HE.out]; rfl, HB.out⟩
  case false =>
    have h0 : CE = 0 := by simpa using q
    subst h0
    have hi := HI.out rfl
    have hc : K = 1 ∨ K = 2 ∨ K = 3 ∨ K = 4 := by omega
    have a1 : 1 ≤ a := hi.2.2.1
    have a2 : a ≤ 999999999999 := hi.2.2.2.1
    clear q hi
    rcases hc with rfl | rfl | rfl | rfl
    all_goals
      have HE := Lib.hid (show D = _ by rw [HD.out, if_pos rfl])
      go_enter Tryz.func38, Tryz.ntmps38
      go_wp2_with fail
      refine (HC.out _).mono ?_
      rintro e w1 ⟨rfl, hb⟩
      have k0 := cell_c (box1 hb).1 0
      have k7 := cell_c (box1 hb).1 7
      have HB := Lib.hid (box1 hb).2.2
      clear hb
      go_wp2_with fail
      go_ret
      exact ⟨by rw [HE.out]; rfl, HB.out⟩
/-- The name of a kind. -/
def nameV (k : Int) : ByteArray := if k = 1 then ⟨#[112, 114, 101, 115, 101, 110, 116, 109, 101, 110, 116]⟩ else if k = 2 then ⟨#[114, 101, 102, 117, 110, 100]⟩ else if k = 3 then ⟨#[99, 104, 97, 114, 103, 101, 98, 97, 99, 107]⟩ else if k = 4 then ⟨#[114, 101, 112, 114, 101, 115, 101, 110, 116, 109, 101, 110, 116]⟩ else ⟨#[]⟩
theorem name_any (k : Int) (w : World) : Calls Tryz.prog 39 #[.int .i64 k] w fun e w' => e = .returned (.string (nameV k)) ∧ w = w' := by
  have HN : Hid (nameV k = _) := Lib.hid (show nameV k = (if k = 1 then ⟨#[112, 114, 101, 115, 101, 110, 116, 109, 101, 110, 116]⟩ else if k = 2 then ⟨#[114, 101, 102, 117, 110, 100]⟩ else if k = 3 then ⟨#[99, 104, 97, 114, 103, 101, 98, 97, 99, 107]⟩ else if k = 4 then ⟨#[114, 101, 112, 114, 101, 115, 101, 110, 116, 109, 101, 110, 116]⟩ else ⟨#[]⟩) from rfl)
  have hc : k = 1 ∨ k = 2 ∨ k = 3 ∨ k = 4 ∨ (k ≠ 1 ∧ k ≠ 2 ∧ k ≠ 3 ∧ k ≠ 4) := by omega
  rcases hc with rfl | rfl | rfl | rfl | ⟨q1, q2, q3, q4⟩
  iterate 4
    · go_enter Tryz.func39, Tryz.ntmps39
      go_wp2_with fail
      go_ret
      exact ⟨by rw [HN.out]; rfl, rfl⟩
  · have HE := Lib.hid (show nameV k = ⟨#[]⟩ by rw [HN.out, if_neg q1, if_neg q2, if_neg q3, if_neg q4])
    have e1 : (k == 1) = false := by simpa using q1
    have e2 : (k == 2) = false := by simpa using q2
    have e3 : (k == 3) = false := by simpa using q3
    have e4 : (k == 4) = false := by simpa using q4
    clear q1 q2 q3 q4 HN
    go_enter Tryz.func39, Tryz.ntmps39
    go_wp2_with fail
    go_ret
    exact ⟨by rw [HE.out]; rfl, rfl⟩
theorem rname_any2 (k : Int) (w : World) : Calls Tryz.prog 40 #[.int .i64 k] w fun e w' => e = .returned (.string (nameV k)) ∧ w = w' := by
  have HN : Hid (nameV k = _) := Lib.hid (show nameV k = (if k = 1 then ⟨#[112, 114, 101, 115, 101, 110, 116, 109, 101, 110, 116]⟩ else if k = 2 then ⟨#[114, 101, 102, 117, 110, 100]⟩ else if k = 3 then ⟨#[99, 104, 97, 114, 103, 101, 98, 97, 99, 107]⟩ else if k = 4 then ⟨#[114, 101, 112, 114, 101, 115, 101, 110, 116, 109, 101, 110, 116]⟩ else ⟨#[]⟩) from rfl)
  have hc : k = 1 ∨ k = 2 ∨ k = 3 ∨ k = 4 ∨ (k ≠ 1 ∧ k ≠ 2 ∧ k ≠ 3 ∧ k ≠ 4) := by omega
  rcases hc with rfl | rfl | rfl | rfl | ⟨q1, q2, q3, q4⟩
  iterate 4
    · go_enter Tryz.func40, Tryz.ntmps40
      go_wp2_with fail
      go_ret
      exact ⟨by rw [HN.out]; rfl, rfl⟩
  · have HE := Lib.hid (show nameV k = ⟨#[]⟩ by rw [HN.out, if_neg q1, if_neg q2, if_neg q3, if_neg q4])
    have e1 : (k == 1) = false := by simpa using q1
    have e2 : (k == 2) = false := by simpa using q2
    have e3 : (k == 3) = false := by simpa using q3
    have e4 : (k == 4) = false := by simpa using q4
    clear q1 q2 q3 q4 HN
    go_enter Tryz.func40, Tryz.ntmps40
    go_wp2_with fail
    go_ret
    exact ⟨by rw [HE.out]; rfl, rfl⟩
end Go.Proofs.YthflmdgfenojcaaGreatDoor
namespace Go.Proofs.YthflmdgfenojcaaGreatDoor
set_option linter.unusedVariables false
open Go.RowKit Go.Sort
theorem short_sizes {r : Rec} (h : shortB r = true) : r.id.size + r.au.size + r.aq.size + r.iss.size + r.me.size + r.ca.size + r.cu.size ≤ 1000000 := by
  unfold shortB at h
  simp only [Bool.and_eq_true, decide_eq_true_eq] at h
  omega
set_option maxRecDepth 100000 in
set_option maxHeartbeats 12800000 in
theorem checks_any (r : Rec) (hr : r.Fit) (w : World) (hw : KW w) : Calls Tryz.prog 5 #[r.val] w fun e w' => e = .returned (.bool true) ∧ Below w.heap.size w w' := by
  have HKW := Lib.hid hw
  have HAW := Lib.hid (fun W hW => awake_any W hW)
  have HSH := Lib.hid (fun W => short_any r W)
  have HCH := Lib.hid (fun W => chk_any r hr W)
  have HRC := Lib.hid (fun W => rchk_any r hr W)
  have HDB := Lib.hid (fun W => debit_any r hr W)
  have HRD := Lib.hid (fun W => rdebit_any r hr W)
  have HN := Lib.hid (fun W => name_any r.k W)
  have HRN := Lib.hid (fun W => rname_any2 r.k W)
  have HSZ := Lib.hid (short_sizes (r := r))
  have HEN := Lib.hid (fun hz W hW => enc_any r hr hz W hW)
  have HRE := Lib.hid (fun hz W => renc_any r hr hz W)
  unfold BPost at HSH
  unfold PtPost at HCH HRC
  unfold IPost at HDB HRD
  unfold EncPost at HEN HRE
  generalize encV r = V at *
  generalize debV r = D at *
  generalize chkE r = CE at *
  generalize shortB r = S at *
  obtain ⟨K, id, au, aq, iss, me, ca, a, cu, d, c, f⟩ := r
  unfold Rec.val Rec.cells at *
  dsimp only at *
  generalize nameV K = NV at *
  clear hw hr
  cases S with
  | false =>
    go_enter Tryz.func5, Tryz.ntmps5
    go_wp2_with fail
    refine (HSH.out _).mono ?_
    rintro e w1 ⟨rfl, hb⟩
    have HB := Lib.hid (box1 hb).2.2
    clear hb
    go_wp2_with fail
    refine (HAW.out _ (HKW.out.below HB.out)).mono ?_
    rintro e w2 ⟨rfl, hb⟩
    have HB := Lib.hid (HB.out.trans (hb.mono HB.out.size))
    clear hb
    go_wp2_with fail
    go_ret
    exact ⟨rfl, HB.out⟩
  | true =>
    have HEN' := Lib.hid (HEN.out (HSZ.out rfl))
    have HRE' := Lib.hid (HRE.out (HSZ.out rfl))
    clear HEN HRE HSZ
    go_enter Tryz.func5, Tryz.ntmps5
    go_wp2_with fail
    refine (HSH.out _).mono ?_
    rintro e w1 ⟨rfl, hb⟩
    have HB := Lib.hid (box1 hb).2.2
    have HK := Lib.hid (box1 hb).1
    clear hb
    obtain ⟨-, k0, k1, k2, k3, k4, k5, k6, k7, k8, k9, k10, k11⟩ := row12 (Below.refl _ _) HK.out
    go_wp2_with fail
    refine (HEN'.out _ (HKW.out.below HB.out)).mono ?_
    rintro e w2 ⟨rfl, hb⟩
    have HB := Lib.hid (HB.out.trans (hb.mono HB.out.size))
    have HK := Lib.hid (blk_later HK.out hb)
    clear hb k0 k1 k2 k3 k4 k5 k6 k7 k8 k9 k10 k11
    obtain ⟨-, k0, k1, k2, k3, k4, k5, k6, k7, k8, k9, k10, k11⟩ := row12 (Below.refl _ _) HK.out
    go_wp2_with fail
    refine (HRE'.out _).mono ?_
    rintro e W ⟨rfl, hb⟩
    have HB := Lib.hid (HB.out.trans (hb.mono HB.out.size))
    have HK := Lib.hid (blk_later HK.out hb)
    clear hb k0 k1 k2 k3 k4 k5 k6 k7 k8 k9 k10 k11
    go_wp2_with fail
    have HBW : Hid (Below W.heap.size W W.drew) := Lib.hid ((Below.refl _ _).drew)
    have HWL := Lib.hid HB.out.size
    go_region_held3 (fun w' => Below W.heap.size W w' ∧ w'.cell? ⟨w.heap.size, 0, none⟩ = some (.int .i64 K) ∧ w'.cell? ⟨w.heap.size, 1, none⟩ = some (.string id) ∧ w'.cell? ⟨w.heap.size, 2, none⟩ = some (.string au) ∧ w'.cell? ⟨w.heap.size, 3, none⟩ = some (.string aq) ∧ w'.cell? ⟨w.heap.size, 4, none⟩ = some (.string iss) ∧ w'.cell? ⟨w.heap.size, 5, none⟩ = some (.string me) ∧ w'.cell? ⟨w.heap.size, 6, none⟩ = some (.string ca) ∧ w'.cell? ⟨w.heap.size, 7, none⟩ = some (.int .i64 a) ∧ w'.cell? ⟨w.heap.size, 8, none⟩ = some (.string cu) ∧ w'.cell? ⟨w.heap.size, 9, none⟩ = some (.int .i64 d) ∧ w'.cell? ⟨w.heap.size, 10, none⟩ = some (.int .i64 c) ∧ w'.cell? ⟨w.heap.size, 11, none⟩ = some (.bool f))
      (exact row12 HBW.out HK.out)
      (first
        | (go_at_call 35; refine (HCH.out _).mono ?_; rintro e w' ⟨rfl, hb⟩; have HBW := Lib.hid (HBW.out.trans (hb.mono HBW.out.size)); clear hb)
        | (go_at_call 36; refine (HRC.out _).mono ?_; rintro e w' ⟨rfl, hb⟩; have HBW := Lib.hid (HBW.out.trans (hb.mono HBW.out.size)); clear hb)
        | (go_at_call 37; refine (HDB.out _).mono ?_; rintro e w' ⟨rfl, hb⟩; have HBW := Lib.hid (HBW.out.trans (hb.mono HBW.out.size)); clear hb)
        | (go_at_call 38; refine (HRD.out _).mono ?_; rintro e w' ⟨rfl, hb⟩; have HBW := Lib.hid (HBW.out.trans (hb.mono HBW.out.size)); clear hb)
        | (go_at_call 39; refine (HN.out _).mono ?_; rintro e w' ⟨rfl, rfl⟩)
        | (go_at_call 40; refine (HRN.out _).mono ?_; rintro e w' ⟨rfl, rfl⟩)
        | (go_at_call 32; refine (HAW.out _ (HKW.out.below (HB.out.trans (HBW.out.mono HB.out.size)))).mono ?_; rintro e w' ⟨rfl, hb⟩; have HBW := Lib.hid (HBW.out.trans (hb.mono HBW.out.size)); clear hb))
    go_wp2_with fail
    go_ret
    exact ⟨rfl, HB.out.trans (HBW.out.mono HB.out.size)⟩
theorem recordChecks_walk (w : World) (hw : KW w) (_ : True) (r : Rec) (hr : r.Fit) : Calls Tryz.prog 5 #[r.val] w fun e w' => e = .returned (.bool true) ∧ Below w.heap.size w w' := checks_any r hr w hw
end Go.Proofs.YthflmdgfenojcaaGreatDoor
namespace Go.Proofs.YthflmdgfenojcaaGreatDoor
set_option linter.unusedVariables false
open Go.RowKit Go.ChangeShapes Go.WideShapes
theorem cells25 : Tryz.prog.cellsOf 57 = 12 := by kernel_rfl
theorem rec_read {H : Type} {enc : TypeId × Value → H} {W : World} (cs : List Value) (m : Nat) (y) (hl : cs.length = 12) (h : DataW.trod enc Tryz.prog W 0 (fun _ => true) true m 57 cs = some y) :
    ∃ r : Rec, cs = r.cells.toList ∧ r.Fit ∧ (Lit.int .i64 r.k).wf = true ∧ (Lit.int .i64 r.a).wf = true ∧ (Lit.int .i64 r.d).wf = true ∧ (Lit.int .i64 r.c).wf = true := by
  match cs, hl with
  | [c0, c1, c2, c3, c4, c5, c6, c7, c8, c9, c10, c11], _ =>
    obtain ⟨xs, n, _, rfl, hxl, hlen, hf⟩ := DataW.trod_struct Tryz.underlying57 h
    match xs, hlen with
    | [y0, y1, y2, y3, y4, y5, y6, y7, y8, y9, y10], _ =>
      have k9 : Tryz.prog.cellsOf 9 = 1 := by kernel_rfl
      have k2 : Tryz.prog.cellsOf 2 = 1 := by kernel_rfl
      have k3 : Tryz.prog.cellsOf 3 = 1 := by kernel_rfl
      have k4 : Tryz.prog.cellsOf 4 = 1 := by kernel_rfl
      have k23 : Tryz.prog.cellsOf 55 = 2 := by kernel_rfl
      obtain ⟨s0, e0, _, w0⟩ := DataW.trod_int Tryz.underlying3 (show DataW.trod enc Tryz.prog W 0 (fun _ => true) true n 3 [c0] = some y0 by simpa [k3] using hf 0 _ rfl)
      obtain ⟨s1, e1, _, w1⟩ := DataW.trod_string Tryz.underlying9 (show DataW.trod enc Tryz.prog W 0 (fun _ => true) true n 9 [c1] = some y1 by simpa [k9] using hf 1 _ rfl)
      obtain ⟨s2, e2, _, w2⟩ := DataW.trod_string Tryz.underlying9 (show DataW.trod enc Tryz.prog W 0 (fun _ => true) true n 9 [c2] = some y2 by simpa [k9] using hf 2 _ rfl)
      obtain ⟨s3, e3, _, w3⟩ := DataW.trod_string Tryz.underlying9 (show DataW.trod enc Tryz.prog W 0 (fun _ => true) true n 9 [c3] = some y3 by simpa [k9] using hf 3 _ rfl)
      obtain ⟨s4, e4, _, w4⟩ := DataW.trod_string Tryz.underlying9 (show DataW.trod enc Tryz.prog W 0 (fun _ => true) true n 9 [c4] = some y4 by simpa [k9] using hf 4 _ rfl)
      obtain ⟨s5, e5, _, w5⟩ := DataW.trod_string Tryz.underlying9 (show DataW.trod enc Tryz.prog W 0 (fun _ => true) true n 9 [c5] = some y5 by simpa [k9] using hf 5 _ rfl)
      obtain ⟨s6, e6, _, w6⟩ := DataW.trod_string Tryz.underlying9 (show DataW.trod enc Tryz.prog W 0 (fun _ => true) true n 9 [c6] = some y6 by simpa [k9] using hf 6 _ rfl)
      obtain ⟨z0, z1, m', _, _, g0, g1⟩ := trod_struct2 Tryz.underlying55 (show DataW.trod enc Tryz.prog W 0 (fun _ => true) true n 55 [c7, c8] = some y7 by simpa [k23] using hf 7 _ rfl)
      obtain ⟨s7, e7, _, w7⟩ := DataW.trod_int Tryz.underlying2 (show DataW.trod enc Tryz.prog W 0 (fun _ => true) true m' 2 [c7] = some z0 by simpa [k2] using g0)
      obtain ⟨s8, e8, _, w8⟩ := DataW.trod_string Tryz.underlying9 (show DataW.trod enc Tryz.prog W 0 (fun _ => true) true m' 9 [c8] = some z1 by simpa [k9] using g1)
      obtain ⟨s9, e9, _, w9⟩ := DataW.trod_int Tryz.underlying3 (show DataW.trod enc Tryz.prog W 0 (fun _ => true) true n 3 [c9] = some y8 by simpa [k3] using hf 8 _ rfl)
      obtain ⟨s10, e10, _, w10⟩ := DataW.trod_int Tryz.underlying3 (show DataW.trod enc Tryz.prog W 0 (fun _ => true) true n 3 [c10] = some y9 by simpa [k3] using hf 9 _ rfl)
      obtain ⟨s11, e11, _⟩ := DataW.trod_bool Tryz.underlying4 (show DataW.trod enc Tryz.prog W 0 (fun _ => true) true n 4 [c11] = some y10 by simpa [k4] using hf 10 _ rfl)
      injection e0 with e0; injection e1 with e1; injection e2 with e2; injection e3 with e3; injection e4 with e4; injection e5 with e5; injection e6 with e6; injection e7 with e7; injection e8 with e8; injection e9 with e9; injection e10 with e10; injection e11 with e11
      subst e0 e1 e2 e3 e4 e5 e6 e7 e8 e9 e10 e11
      exact ⟨⟨s0, s1, s2, s3, s4, s5, s6, s7, s8, s9, s10, s11⟩, rfl, ⟨w1, w2, w3, w4, w5, w6, w8⟩, w0, w7, w9, w10⟩
set_option maxRecDepth 100000 in
theorem rec_open {H : Type} {enc : TypeId × Value → H} {W : World} {r : Reach} {b0 : Nat} {v : Value} {d : DataW H} {p : List MemPlace} (hv : Value.okWide Tryz.prog W r b0 57 v) (h : DataW.Trod enc Tryz.prog W 0 (fun _ => true) true 57 v d p) :
    ∃ x : Rec, v = x.val ∧ x.Fit := by
  obtain ⟨cs, rfl, hsz⟩ := okWide_struct Tryz.underlying57 hv
  obtain ⟨fuel, hf⟩ := h
  have hc : cs.toList.length = 12 := by rw [Array.length_toList, hsz]; exact cells25
  obtain ⟨x, hx, hok, _⟩ := rec_read cs.toList fuel _ hc (by simpa [Value.cells] using hf)
  refine ⟨x, ?_, hok⟩
  unfold Rec.val
  rw [Array.toList_inj.1 hx]
end Go.Proofs.YthflmdgfenojcaaGreatDoor
