/- The walk of record.Encode. -/
import Derived.Test.YthflmdgfenojcaaGreatDoorNbr
import Derived.Laws.MakeOwn
import Derived.Laws.Rows
namespace Go.Proofs.YthflmdgfenojcaaGreatDoor
set_option linter.unusedVariables false
open Go.RowKit

def barS : ByteArray := ⟨#[124]⟩
def finS (b : Bool) : ByteArray := if b then ⟨#[49]⟩ else ⟨#[48]⟩
def Rec.texts (r : Rec) : List ByteArray := [itoS r.k, r.id, r.au, r.aq, r.iss, r.me, r.ca, itoS r.a, r.cu, itoS r.d, itoS r.c, finS r.f]
def encS (r : Rec) : ByteArray := ⟨(Lib.join (r.texts.map (·.data.toList)) [124]).toArray⟩
def encV (r : Rec) : ByteArray := if chkE r = 0 then encS r else ⟨#[]⟩
/-- What Encode answers. -/
def EncPost (r : Rec) (w : World) (e : Ending) (w' : World) : Prop := e = .returned (.tuple #[.string (encV r), .int .i64 (chkE r)]) ∧ Below w.heap.size w w'
theorem mk9 : (Tryz.prog.info? 9).map (fun i => (i.zero, i.size, i.bytes)) = some (some (.string ByteArray.empty), 1, 16) := by kernel_rfl
set_option maxRecDepth 100000 in
theorem make12 (w : World) : (Instr.makeSlice 22 (.int .i64 12) (.int .i64 12)).run Tryz.prog w = .ok (.slice (some ⟨w.heap.size, 0, none⟩) 12 12) (w.alloc (.cells #[.string ByteArray.empty, .string ByteArray.empty, .string ByteArray.empty, .string ByteArray.empty, .string ByteArray.empty, .string ByteArray.empty, .string ByteArray.empty, .string ByteArray.empty, .string ByteArray.empty, .string ByteArray.empty, .string ByteArray.empty, .string ByteArray.empty] 9)) := by
  obtain ⟨i0, hi0, hz0, hz1, hz2⟩ := info_parts mk9
  have := run_make (P := Tryz.prog) w 22 9 i0 _ Tryz.underlying22 hi0 hz0 .i64 .i64 12 12 (by omega) (by omega) (by rw [hz2]; omega) (by omega)
  have hm : madeCells (Value.string ByteArray.empty).cells (Int.toNat 12 * 1) = #[.string ByteArray.empty, .string ByteArray.empty, .string ByteArray.empty, .string ByteArray.empty, .string ByteArray.empty, .string ByteArray.empty, .string ByteArray.empty, .string ByteArray.empty, .string ByteArray.empty, .string ByteArray.empty, .string ByteArray.empty, .string ByteArray.empty] := by kernel_rfl
  rw [this, hz1, hm]
  rfl
theorem cells_xs {W : World} {A : Nat} {xs : List ByteArray} (h : W.heap[A]? = some (.cells (xs.map Value.string).toArray 9)) : ∀ (j : Nat) x, xs[j]? = some x → W.cell? ⟨A, 0 + j, none⟩ = some (.string x) := by
  intro j x hx
  rw [cell_c h, Nat.zero_add]
  simp [hx]
theorem nd_le (u : Nat) : Lib.nDigits u ≤ u + 1 := by
  induction u using Nat.strongRecOn with
  | _ u ih =>
    rw [Lib.nDigits]
    split
    · omega
    · have := ih (u / 10) (by omega); omega
theorem itoS_len (v : Int) : (itoS v).data.toList.length ≤ v.natAbs + 2 := by
  show (Lib.itoa v).length ≤ _
  unfold Lib.itoa
  split
  · have := nd_le v.natAbs
    rw [List.length_cons, Lib.decDigits_length]; omega
  · have := nd_le v.toNat
    rw [Lib.decDigits_length]; omega
/-- Rooms: a row of the call's own and the record's box. -/
theorem Fit.ints (r : Rec) (h : chkE r = 0) : 1 ≤ r.k ∧ r.k ≤ 4 ∧ 1 ≤ r.a ∧ r.a ≤ 999999999999 ∧ 0 ≤ r.c ∧ r.c ≤ 9999 ∧ 0 ≤ r.d ∧ r.d ≤ 99999 := by
  have h0 : ∀ j, j < 6 → ptE r j = 0 := by
    intro j hj
    induction j using Nat.strongRecOn with
    | _ j ih =>
      by_cases q : ptE r j = 0
      · exact q
      · have := chkE_at r j hj (fun i hi => ih i hi (by omega)) q
        omega
  have a0 := h0 0 (by omega)
  have a4 := h0 4 (by omega)
  have a5 := h0 5 (by omega)
  unfold ptE at a0 a4 a5
  simp only [kindE, limE, dateE] at a0 a4 a5
  split at a0 <;> split at a4 <;> split at a5 <;> omega
set_option maxHeartbeats 12800000 in
set_option maxRecDepth 100000 in
theorem enc_any (r : Rec) (hr : r.Fit) (hsz : r.id.size + r.au.size + r.aq.size + r.iss.size + r.me.size + r.ca.size + r.cu.size ≤ 1000000) (w : World) (hw : KW w) : Calls Tryz.prog 33 #[r.val] w (EncPost r w) := by
  have HC := Lib.hid (fun W => chk_any r hr W)
  have HI := Lib.hid (Fit.ints r)
  have HV := Lib.hid (show encV r = if chkE r = 0 then encS r else ⟨#[]⟩ from rfl)
  have HS := Lib.hid (show encS r = ⟨(Lib.join (r.texts.map (·.data.toList)) [124]).toArray⟩ from rfl)
  have HW := Lib.hid hw
  have HSZ := Lib.hid hsz
  unfold EncPost
  unfold PtPost at HC
  generalize chkE r = CE at *
  generalize encV r = EV at *
  generalize encS r = ES at *
  obtain ⟨K, id, au, aq, iss, me, ca, a, cu, d, c, f⟩ := r
  unfold Rec.val Rec.cells at *
  unfold Rec.texts at HS
  dsimp only at *
  clear hr hw hsz
  cases q : (CE != 0)
  case true =>
    have hne : CE ≠ 0 := by simpa using q
    have HE := Lib.hid (show EV = ⟨#[]⟩ by rw [HV.out, if_neg hne])
    clear hne
    go_enter Tryz.func33, Tryz.ntmps33
    go_wp2_with fail
    refine (HC.out _).mono ?_
    rintro e w1 ⟨rfl, hb⟩
    have HB := Lib.hid (box1 hb).2.2
    clear hb
    go_wp2_with fail
    go_ret2
    exact ⟨by rw [HE.out]; rfl, HB.out⟩
  case false =>
    have h0 : CE = 0 := by simpa using q
    subst h0
    have HE := Lib.hid (show EV = ES by rw [HV.out, if_pos rfl])
    have HIN := Lib.hid (HI.out rfl)
    clear q
    go_enter Tryz.func33, Tryz.ntmps33
    go_wp2_with fail
    refine (HC.out _).mono ?_
    rintro e w1 ⟨rfl, hb⟩
    obtain ⟨k1, hz, hb1⟩ := box1 hb
    have K1 := Lib.hid k1
    have HB := Lib.hid hb1
    have HZ := Lib.hid hz
    have r0 := cell_c (blk_later K1.out (bx w1 (.cells #[.string ByteArray.empty, .string ByteArray.empty, .string ByteArray.empty, .string ByteArray.empty, .string ByteArray.empty, .string ByteArray.empty, .string ByteArray.empty, .string ByteArray.empty, .string ByteArray.empty, .string ByteArray.empty, .string ByteArray.empty, .string ByteArray.empty] 9))) 0
    have hmk := make12 w1
    clear hb hb1 k1 hz
    go_wp2_with fail
    refine (itoa_any K _ (HW.out.below (HB.out.alloc HB.out.size _)).1 (by have := HIN.out; omega) (by have := HIN.out; omega)).mono ?_
    rintro e w2 ⟨rfl, hb⟩
    obtain ⟨kA, hz2, hb2⟩ := box1 hb
    have KA := Lib.hid kA
    have K2 := Lib.hid (blk_later K1.out hb2)
    have HB2 := Lib.hid (HB.out.trans (hb2.mono HB.out.size))
    have HA := Lib.hid (show w.heap.size ≤ w1.heap.size from HB.out.size)
    have HNE := Lib.hid (show w.heap.size ≠ w1.heap.size by have := HZ.out; omega)
    clear hmk hb kA hz2 hb2 r0
    generalize w1.heap.size = A at *
    have r1 := cell_c K2.out 1
    have r2 := cell_c K2.out 2
    have r3 := cell_c K2.out 3
    have r4 := cell_c K2.out 4
    have r5 := cell_c K2.out 5
    have r6 := cell_c K2.out 6
    have r7 := cell_c K2.out 7
    have a0 := cell_c KA.out 0
    have b0 := cell_f KA.out 0
    have a1 := cell_c KA.out 1
    have b1 := cell_f KA.out 1
    have a2 := cell_c KA.out 2
    have b2 := cell_f KA.out 2
    have a3 := cell_c KA.out 3
    have b3 := cell_f KA.out 3
    have a4 := cell_c KA.out 4
    have b4 := cell_f KA.out 4
    have a5 := cell_c KA.out 5
    have b5 := cell_f KA.out 5
    have a6 := cell_c KA.out 6
    have b6 := cell_f KA.out 6
    go_wp2_with fail
    refine (fint_any a _ (HW.out.below (((((((HB2.out.setCell (p := ⟨A, 0, none⟩) HA.out _).setCell (p := ⟨A, 1, none⟩) HA.out _).setCell (p := ⟨A, 2, none⟩) HA.out _).setCell (p := ⟨A, 3, none⟩) HA.out _).setCell (p := ⟨A, 4, none⟩) HA.out _).setCell (p := ⟨A, 5, none⟩) HA.out _).setCell (p := ⟨A, 6, none⟩) HA.out _)).1 (by have := HIN.out; omega) (by have := HIN.out; omega)).mono ?_
    rintro e w3 ⟨rfl, hb⟩
    have HB3 := Lib.hid ((((((((HB2.out.setCell (p := ⟨A, 0, none⟩) HA.out _).setCell (p := ⟨A, 1, none⟩) HA.out _).setCell (p := ⟨A, 2, none⟩) HA.out _).setCell (p := ⟨A, 3, none⟩) HA.out _).setCell (p := ⟨A, 4, none⟩) HA.out _).setCell (p := ⟨A, 5, none⟩) HA.out _).setCell (p := ⟨A, 6, none⟩) HA.out _).trans (hb.mono (((((((HB2.out.setCell (p := ⟨A, 0, none⟩) HA.out _).setCell (p := ⟨A, 1, none⟩) HA.out _).setCell (p := ⟨A, 2, none⟩) HA.out _).setCell (p := ⟨A, 3, none⟩) HA.out _).setCell (p := ⟨A, 4, none⟩) HA.out _).setCell (p := ⟨A, 5, none⟩) HA.out _).setCell (p := ⟨A, 6, none⟩) HA.out _).size))
    have KA3 : Hid (w3.heap[A]? = some (.cells #[.string (itoS K), .string id, .string au, .string aq, .string iss, .string me, .string ca, .string ByteArray.empty, .string ByteArray.empty, .string ByteArray.empty, .string ByteArray.empty, .string ByteArray.empty] 9)) := Lib.hid (blk_later (heap_setCell_same _ A 6 _ _ _ (heap_setCell_same _ A 5 _ _ _ (heap_setCell_same _ A 4 _ _ _ (heap_setCell_same _ A 3 _ _ _ (heap_setCell_same _ A 2 _ _ _ (heap_setCell_same _ A 1 _ _ _ (heap_setCell_same _ A 0 _ _ _ KA.out))))))) hb)
    have K3 : Hid (w3.heap[w.heap.size]? = some (.cells #[.int .i64 K, .string id, .string au, .string aq, .string iss, .string me, .string ca, .int .i64 a, .string cu, .int .i64 d, .int .i64 c, .bool f] 57)) := Lib.hid (blk_later ((heap_setCell_other _ ⟨A, 6, none⟩ _ _ HNE.out).trans ((heap_setCell_other _ ⟨A, 5, none⟩ _ _ HNE.out).trans ((heap_setCell_other _ ⟨A, 4, none⟩ _ _ HNE.out).trans ((heap_setCell_other _ ⟨A, 3, none⟩ _ _ HNE.out).trans ((heap_setCell_other _ ⟨A, 2, none⟩ _ _ HNE.out).trans ((heap_setCell_other _ ⟨A, 1, none⟩ _ _ HNE.out).trans ((heap_setCell_other _ ⟨A, 0, none⟩ _ _ HNE.out).trans K2.out))))))) hb)
    clear hb r1 r2 r3 r4 r5 r6 r7 a0 b0 a1 b1 a2 b2 a3 b3 a4 b4 a5 b5 a6 b6
    have r8 := cell_c K3.out 8
    have r9 := cell_c K3.out 9
    have a7 := cell_c KA3.out 7
    have b7 := cell_f KA3.out 7
    have a8 := cell_c KA3.out 8
    have b8 := cell_f KA3.out 8
    go_wp2_with fail
    refine (itoa_any d _ (HW.out.below ((HB3.out.setCell (p := ⟨A, 7, none⟩) HA.out _).setCell (p := ⟨A, 8, none⟩) HA.out _)).1 (by have := HIN.out; omega) (by have := HIN.out; omega)).mono ?_
    rintro e w4 ⟨rfl, hb⟩
    have HB4 := Lib.hid (((HB3.out.setCell (p := ⟨A, 7, none⟩) HA.out _).setCell (p := ⟨A, 8, none⟩) HA.out _).trans (hb.mono ((HB3.out.setCell (p := ⟨A, 7, none⟩) HA.out _).setCell (p := ⟨A, 8, none⟩) HA.out _).size))
    have KA4 : Hid (w4.heap[A]? = some (.cells #[.string (itoS K), .string id, .string au, .string aq, .string iss, .string me, .string ca, .string (itoS a), .string cu, .string ByteArray.empty, .string ByteArray.empty, .string ByteArray.empty] 9)) := Lib.hid (blk_later (heap_setCell_same _ A 8 _ _ _ (heap_setCell_same _ A 7 _ _ _ KA3.out)) hb)
    have K4 : Hid (w4.heap[w.heap.size]? = some (.cells #[.int .i64 K, .string id, .string au, .string aq, .string iss, .string me, .string ca, .int .i64 a, .string cu, .int .i64 d, .int .i64 c, .bool f] 57)) := Lib.hid (blk_later ((heap_setCell_other _ ⟨A, 8, none⟩ _ _ HNE.out).trans ((heap_setCell_other _ ⟨A, 7, none⟩ _ _ HNE.out).trans K3.out)) hb)
    clear hb r8 r9 a7 b7 a8 b8
    have r10 := cell_c K4.out 10
    have a9 := cell_c KA4.out 9
    have b9 := cell_f KA4.out 9
    go_wp2_with fail
    refine (itoa_any c _ (HW.out.below (HB4.out.setCell (p := ⟨A, 9, none⟩) HA.out _)).1 (by have := HIN.out; omega) (by have := HIN.out; omega)).mono ?_
    rintro e w5 ⟨rfl, hb⟩
    have HB5 := Lib.hid ((HB4.out.setCell (p := ⟨A, 9, none⟩) HA.out _).trans (hb.mono (HB4.out.setCell (p := ⟨A, 9, none⟩) HA.out _).size))
    have KA5 : Hid (w5.heap[A]? = some (.cells #[.string (itoS K), .string id, .string au, .string aq, .string iss, .string me, .string ca, .string (itoS a), .string cu, .string (itoS d), .string ByteArray.empty, .string ByteArray.empty] 9)) := Lib.hid (blk_later (heap_setCell_same _ A 9 _ _ _ KA4.out) hb)
    have K5 : Hid (w5.heap[w.heap.size]? = some (.cells #[.int .i64 K, .string id, .string au, .string aq, .string iss, .string me, .string ca, .int .i64 a, .string cu, .int .i64 d, .int .i64 c, .bool f] 57)) := Lib.hid (blk_later ((heap_setCell_other _ ⟨A, 9, none⟩ _ _ HNE.out).trans K4.out) hb)
    clear hb r10 a9 b9
    have HJ : Hid (∀ (W : World) (xs : List ByteArray), xs.length = 12 → (∀ (j : Nat) x, xs[j]? = some x → W.cell? ⟨A, 0 + j, none⟩ = some (.string x)) → A < W.heap.size → (Lib.join (xs.map (·.data.toList)) [124]).length ≤ 140737488355328 →
        Calls Tryz.prog 80 #[.slice (some ⟨A, 0, none⟩) 12 12, .string ⟨#[124]⟩] W fun e w' => e = .returned (.string ⟨(Lib.join (xs.map (·.data.toList)) [124]).toArray⟩) ∧ Below W.heap.size W w') := Lib.hid (fun W xs hl hcells hA hlen => by
      have h := Tryz.strings_Join A 0 12 xs ⟨#[124]⟩ W hcells hA (by omega) (by omega) hlen
      rw [hl] at h
      exact h)
    have HAL := Lib.hid (show A < w5.heap.size from World.block_lt_of_cell? _ _ (cell_c KA5.out 0))
    have HLEN : Hid (∀ s : ByteArray, s.size ≤ 1 → (Lib.join ([itoS K, id, au, aq, iss, me, ca, itoS a, cu, itoS d, itoS c, s].map (·.data.toList)) [124]).length ≤ 140737488355328) := Lib.hid (fun s hs => by
      have h1 := itoS_len K
      have h2 := itoS_len a
      have h3 := itoS_len d
      have h4 := itoS_len c
      have h5 := HIN.out
      have h6 := HSZ.out
      rw [List.map_cons, Lib.join_length]
      simp [Lib.lens] at *
      omega)
    cases f with
    | false =>
      have r11 := cell_c K5.out 11
      have a10 := cell_c KA5.out 10
      have b10 := cell_f KA5.out 10
      have a11 := cell_c KA5.out 11
      have b11 := cell_f KA5.out 11
      have n1 : w.heap.size ≠ A := HNE.out
      have n2 : A ≠ w.heap.size := fun h => HNE.out h.symm
      go_wp2_with fail
      refine (HJ.out _ [itoS K, id, au, aq, iss, me, ca, itoS a, cu, itoS d, itoS c, ⟨#[48]⟩] rfl (cells_xs (heap_setCell_same _ A 11 _ _ _ (heap_setCell_same _ A 10 _ _ _ KA5.out))) (by simp only [World.setCell, Array.size_modify]; exact HAL.out) (HLEN.out _ (by decide))).mono ?_
      rintro e w6 ⟨rfl, hb⟩
      have HB6 := Lib.hid (((HB5.out.setCell (p := ⟨A, 10, none⟩) HA.out _).setCell (p := ⟨A, 11, none⟩) HA.out _).trans (hb.mono ((HB5.out.setCell (p := ⟨A, 10, none⟩) HA.out _).setCell (p := ⟨A, 11, none⟩) HA.out _).size))
      clear hb r11 a10 b10 a11 b11
      go_wp2_with fail
      go_ret2
      exact ⟨by rw [HE.out, HS.out]; rfl, HB6.out⟩
    | true =>
      have r11 := cell_c K5.out 11
      have a10 := cell_c KA5.out 10
      have b10 := cell_f KA5.out 10
      have a11 := cell_c KA5.out 11
      have b11 := cell_f KA5.out 11
      have n1 : w.heap.size ≠ A := HNE.out
      have n2 : A ≠ w.heap.size := fun h => HNE.out h.symm
      go_wp2_with fail
      refine (HJ.out _ [itoS K, id, au, aq, iss, me, ca, itoS a, cu, itoS d, itoS c, ⟨#[49]⟩] rfl (cells_xs (heap_setCell_same _ A 11 _ _ _ (heap_setCell_same _ A 11 _ _ _ (heap_setCell_same _ A 10 _ _ _ KA5.out)))) (by simp only [World.setCell, Array.size_modify]; exact HAL.out) (HLEN.out _ (by decide))).mono ?_
      rintro e w6 ⟨rfl, hb⟩
      have HB6 := Lib.hid ((((HB5.out.setCell (p := ⟨A, 10, none⟩) HA.out _).setCell (p := ⟨A, 11, none⟩) HA.out _).setCell (p := ⟨A, 11, none⟩) HA.out _).trans (hb.mono (((HB5.out.setCell (p := ⟨A, 10, none⟩) HA.out _).setCell (p := ⟨A, 11, none⟩) HA.out _).setCell (p := ⟨A, 11, none⟩) HA.out _).size))
      clear hb r11 a10 b10 a11 b11
      go_wp2_with fail
      go_ret2
      exact ⟨by rw [HE.out, HS.out]; rfl, HB6.out⟩
end Go.Proofs.YthflmdgfenojcaaGreatDoor
