/- What the law needs beyond the packed texts. -/
import Derived.Shelf.Strings.Builder1
import Derived.Shelf.Strings.Builder2
import Derived.Shelf.Strings.OnBuilder
import Derived.Shelf.Small.Utf8
import Derived.Shelf.Small.Strs
import Derived.Shelf.Strings.BuilderF
import Derived.Shelf.Strings.BuilderK
import Derived.Shelf.Utf8.RuneCount
import Derived.Shelf.Strings.Builder2Cap
import Derived.Shelf.Strconv.Itoa0
import Derived.Shelf.Strconv.Itoa1
import Derived.Shelf.LaysM
import Derived.Shelf.Strconv.Itoa2
import Derived.Shelf.Strconv.Itoa3
import Derived.Shelf.Strconv.Itoa4
import Derived.Shelf.Strconv.ParseIntEmpty
import Derived.Shelf.Strconv.Clone
import Derived.Shelf.Strconv.SyntaxError
import Derived.Shelf.LaysC
import Derived.Shelf.Strconv.ToError
import Derived.Shelf.Strconv.Lower
import Derived.Shelf.Strconv.ParseUint10
import Derived.Shelf.Strconv.ParseUint10Empty
import Derived.Shelf.Strconv.ParseUint10Any
import Derived.Shelf.Strconv.ParseInt10
import Derived.Shelf.Strconv.RangeError
import Derived.Shelf.Strconv.ToErrorRange
import Derived.Shelf.Strconv.ParseUintEmpty
import Derived.Shelf.Strconv.ParseUint10b64
import Derived.Shelf.Strconv.ParseUint10b32
import Derived.Shelf.Strconv.ParseUint10b16
import Derived.Shelf.Strconv.ParseUint10b8
import Derived.Shelf.Strconv.ParseUint10At
import Derived.Shelf.Strconv.ParseInt10At64
import Derived.Shelf.Strconv.ParseInt10At32
import Derived.Shelf.Strconv.ParseInt10At16
import Derived.Shelf.Strconv.ParseInt10At8
import Derived.Shelf.Strconv.ParseInt10All
import Derived.Shelf.Strconv.ParseIntPublic10
import Derived.Shelf.Strconv.ErrVarParseInt
import Derived.Shelf.Strings.Search1
import Derived.Shelf.Strings.Search2
import Derived.Shelf.Strings.Search3
import Derived.Shelf.Strings.Count
import Derived.Shelf.Strings.Shaped
import Derived.Shelf.Strings.Prefix
import Derived.Shelf.Strings.Split
import Derived.Shelf.Strings.SplitShaped
import Derived.Shelf.Unicode.Decode
import Derived.Shelf.Strings.Runes
import Derived.Shelf.Strings.RuneCount
import Derived.Shelf.Strings.Explode
import Derived.Shelf.Bits.Mul64
import Derived.Shelf.Strings.Repeat
import Derived.Shelf.Unicode.DecodeSlow
import Derived.Shelf.Unicode.DecodeAny
import Derived.Shelf.Strings.BuilderCap
import Derived.Test.YthflmdgfenojcaaGreatDoorProg
import Derived.Laws.MakeOwn
import Derived.Laws.Rows
import Derived.Outline
import Derived.Lib.OthersKept
import Derived.Lib.ItoaLen
import Derived.Deep.RegionHeld3
import Derived.Test.YthflmdgfenojcaaGreatDoorRows
import Derived.Lib.LaidTab
import Derived.Lib.SmallJoins
import Derived.OpenShut
import Derived.Stop.LaidErr
import Derived.Shelf.Vars
import Derived.Below
import Derived.Laws.OwnMore
import Derived.Deep.AppendLies
import Derived.Deep.Draws
import Derived.Maps.AppendAt
import Derived.RegionTactic
import Derived.OwnWalk
import Derived.SizedLaws
import Derived.Deep.Slices
import Derived.Deep.Fields
import Derived.Test.YthflmdgfenojcaaGreatDoorQPlain
import Derived.Test.YthflmdgfenojcaaGreatDoorQBase
import Derived.Test.YthflmdgfenojcaaGreatDoorQShelf
import Derived.Test.YthflmdgfenojcaaGreatDoorQLex
import Derived.Test.YthflmdgfenojcaaGreatDoorQPan
import Derived.Test.YthflmdgfenojcaaGreatDoorQMon
import Derived.Test.YthflmdgfenojcaaGreatDoorQRec
import Derived.Test.YthflmdgfenojcaaGreatDoorQChk
import Derived.Test.YthflmdgfenojcaaGreatDoorQNbr
import Derived.Test.YthflmdgfenojcaaGreatDoorQEnc
import Derived.Test.YthflmdgfenojcaaGreatDoorQCut
import Derived.Test.YthflmdgfenojcaaGreatDoorQDec
import Derived.Test.YthflmdgfenojcaaGreatDoorQSl
import Derived.Test.YthflmdgfenojcaaGreatDoorQC7p
import Derived.Test.YthflmdgfenojcaaGreatDoorQC7Walk
import Derived.Test.YthflmdgfenojcaaGreatDoorQRws
import Derived.Test.YthflmdgfenojcaaGreatDoorQHx
import Derived.Test.YthflmdgfenojcaaGreatDoorQBd
import Derived.Test.YthflmdgfenojcaaGreatDoorQFx16
import Derived.Test.YthflmdgfenojcaaGreatDoorQPr
import Derived.Test.YthflmdgfenojcaaGreatDoorQCr
import Derived.Test.YthflmdgfenojcaaGreatDoorQBnm
import Derived.Test.YthflmdgfenojcaaGreatDoorQSum
import Derived.Test.YthflmdgfenojcaaGreatDoorQCl
import Derived.Test.YthflmdgfenojcaaGreatDoorQBck
import Derived.Test.YthflmdgfenojcaaGreatDoorQBen
import Derived.Test.YthflmdgfenojcaaGreatDoorQExm
import Derived.Test.YthflmdgfenojcaaGreatDoorQDcd
import Derived.Test.YthflmdgfenojcaaGreatDoorQDvw
import Derived.Test.YthflmdgfenojcaaGreatDoorQDcw
import Derived.Test.YthflmdgfenojcaaGreatDoorQAw
import Derived.Test.YthflmdgfenojcaaGreatDoorQFew
import Derived.Test.YthflmdgfenojcaaGreatDoorQAwb
import Derived.Test.YthflmdgfenojcaaGreatDoorQLDe
import Derived.Test.YthflmdgfenojcaaGreatDoorQHo
import Derived.Test.YthflmdgfenojcaaGreatDoorQRds
/-
  DERIVED: THE SHELF's CONTRACTS AT THIS DUMP, IN PLAIN WORDS (tools/lay-plain.mjs out of 'TryzShelf.lean', which tools/lay-shelf.mjs wrote): THE SAME DECLARATIONS UNDER THE SAME NAMES: 'import', 'namespace', 'open', 'def', 'theorem' AND NOTHING ELSE: no command of the shelf's: FOR A HAND-IN. Each laying: the table of numbers ('.._ren') and one theorem, a field a fact of the dump's own or the kernel's comparison; each contract: ONE APPLICATION.
-/
namespace Go.Proofs
open Go.Shelf
def Tryz.lays169_ren : Go.Shelf.Ren := ⟨fun | 169 => 97 | n => n, fun | 70 => 136 | 9 => 9 | 0 => 0 | 72 => 138 | 37 => 80 | 127 => 173 | 3 => 3 | 5 => 5 | n => n, fun | n => n⟩
theorem Tryz.lays169 : Go.Proofs.Lays.n169 Tryz.prog Tryz.lays169_ren := {
  mixed := by kernel_rfl
  f169 := Tryz.func97.trans (congrArg some (by kernel_rfl))
  t0 := Tryz.underlying0
  a0 := Tryz.isAgg0
  z0 := Tryz.sizeOf0
  v0 := Tryz.zeroValue0
  t3 := Tryz.underlying3
  a3 := Tryz.isAgg3
  z3 := Tryz.sizeOf3
  v3 := Tryz.zeroValue3
  t9 := Tryz.underlying9
  a9 := Tryz.isAgg9
  z9 := Tryz.sizeOf9
  v9 := Tryz.zeroValue9
  t37 := Tryz.underlying80
  a37 := Tryz.isAgg80
  z37 := Tryz.sizeOf80
  v37 := Tryz.zeroValue80
  t70 := Tryz.underlying136
  a70 := Tryz.isAgg136
  z70 := Tryz.sizeOf136
  v70 := Tryz.zeroValue136
  t72 := Tryz.underlying138
  a72 := Tryz.isAgg138
  z72 := Tryz.sizeOf138
  v72 := Tryz.zeroValue138
  t127 := Tryz.underlying173
  a127 := Tryz.isAgg173
  z127 := Tryz.sizeOf173
  v127 := Tryz.zeroValue173 }
theorem Tryz.Builder_Extra_169 : Builder.Extra Tryz.prog Tryz.lays169_ren := {
  sizeBuilder := by kernel_rfl
  liesBuilder := by kernel_rfl
  t5 := Tryz.underlying5
  a5 := Tryz.isAgg5
  z5 := Tryz.sizeOf5
  v5 := Tryz.zeroValue5
  infoByte := by kernel_rfl
  cellsByte := by kernel_rfl
  sizeByte := by kernel_rfl
  neB5 := by decide }
open Go.RowKit in
/-- (*strings.Builder).String: "String returns the accumulated string.": WHATEVER THE BUILDER HOLDS; THE FORM '_k': OVER 'Lib.IsBuilderF' (a builder that 'String()' may have read), AND WITH THE FRAME THAT REACHES ABOVE THE BUILDER: 'Lib.OthersKept': every block that is not b and is no row of uint8's stands as it stood: the iterator of a range among them. (LAID: no walk: one application.) -/
theorem Tryz.Builder_String_any_k (B b : Nat) (l : List UInt8) (w : World) (h : Lib.IsBuilderF 138 5 B b (Lib.byteCells l) w) (hBw : B ≤ w.heap.size) :
    Calls Tryz.prog 97 #[.pointer (some ⟨b, 0, none⟩)] w fun e w' => e = .returned (.string ⟨l.toArray⟩) ∧ (Lib.IsBuilderF 138 5 B b (Lib.byteCells l) w' ∧ Below B w w' ∧ Lib.OthersKept 5 (some b) w w') := Any.Builder_String_any_k Tryz.lays169 Tryz.Builder_Extra_169 B b l w h hBw
end Go.Proofs
namespace Go.Proofs.YthflmdgfenojcaaGreatDoor
set_option linter.unusedVariables false
open Go.RowKit
theorem mk9 : (Tryz.prog.info? 9).map (fun i => (i.zero, i.size, i.bytes)) = some (some (.string ByteArray.empty), 1, 16) := by kernel_rfl
set_option maxRecDepth 100000 in
theorem make12 (w : World) : (Instr.makeSlice 22 (.int .i64 12) (.int .i64 12)).run Tryz.prog w = .ok (.slice (some ⟨w.heap.size, 0, none⟩) 12 12) (w.alloc (.cells #[.string ByteArray.empty, .string ByteArray.empty, .string ByteArray.empty, .string ByteArray.empty, .string ByteArray.empty, .string ByteArray.empty, .string ByteArray.empty, .string ByteArray.empty, .string ByteArray.empty, .string ByteArray.empty, .string ByteArray.empty, .string ByteArray.empty] 9)) := by
  obtain ⟨i0, hi0, hz0, hz1, hz2⟩ := info_parts mk9
  have := run_make (P := Tryz.prog) w 22 9 i0 _ Tryz.underlying22 hi0 hz0 .i64 .i64 12 12 (by omega) (by omega) (by rw [hz2]; omega) (by omega)
  have hm : madeCells (Value.string ByteArray.empty).cells (Int.toNat 12 * 1) = #[.string ByteArray.empty, .string ByteArray.empty, .string ByteArray.empty, .string ByteArray.empty, .string ByteArray.empty, .string ByteArray.empty, .string ByteArray.empty, .string ByteArray.empty, .string ByteArray.empty, .string ByteArray.empty, .string ByteArray.empty, .string ByteArray.empty] := by kernel_rfl
  rw [this, hz1, hm]
  rfl
theorem cells_xs {W : World} {A : Nat} {xs : List ByteArray} (h : W.heap[A]? = some (.cells (xs.map Value.string).toArray 9)) : ∀ (j : Nat) x, xs[j]? = some x → W.cell? ⟨A, 0 + j, none⟩ = some (.string x) := by
  intro j x hx
  rw [cell_c h, Nat.zero_add]
  simp [hx]
theorem nd_le (u : Nat) : Lib.nDigits u ≤ u + 1 := by
  induction u using Nat.strongRecOn with
  | _ u ih =>
    rw [Lib.nDigits]
    split
    · omega
    · have := ih (u / 10) (by omega); omega
theorem itoS_len (v : Int) : (itoS v).data.toList.length ≤ v.natAbs + 2 := by
  show (Lib.itoa v).length ≤ _
  unfold Lib.itoa
  split
  · have := nd_le v.natAbs
    rw [List.length_cons, Lib.decDigits_length]; omega
  · have := nd_le v.toNat
    rw [Lib.decDigits_length]; omega
set_option maxHeartbeats 12800000 in
set_option maxRecDepth 100000 in
theorem enc_any (r : Rec) (hr : r.Fit) (hsz : r.id.size + r.au.size + r.aq.size + r.iss.size + r.me.size + r.ca.size + r.cu.size ≤ 1000000) (w : World) (hw : KW w) : Calls Tryz.prog 33 #[r.val] w (EncPost r w) := by
  have HC := Lib.hid (fun W => chk_any r hr W)
  have HI := Lib.hid (Fit.ints r)
  have HV := Lib.hid (show encV r = if chkE r = 0 then encS r else ⟨#[]⟩ from rfl)
  have HS := Lib.hid (show encS r = ⟨(Lib.join (r.texts.map (·.data.toList)) [124]).toArray⟩ from rfl)
  have HW := Lib.hid hw
  have HSZ := Lib.hid hsz
  unfold EncPost
  unfold PtPost at HC
  generalize chkE r = CE at *
  generalize encV r = EV at *
  generalize encS r = ES at *
  obtain ⟨K, id, au, aq, iss, me, ca, a, cu, d, c, f⟩ := r
  unfold Rec.val Rec.cells at *
  unfold Rec.texts at HS
  dsimp only at *
  clear hr hw hsz
  cases q : (CE != 0)
  case true =>
    have hne : CE ≠ 0 := by simpa using q
    have HE := Lib.hid (show EV = ⟨#[]⟩ by rw [HV.out, if_neg hne])
    clear hne
    go_enter Tryz.func33, Tryz.ntmps33
    go_wp2_with fail
    refine (HC.out _).mono ?_
    rintro e w1 ⟨rfl, hb⟩
    have HB := Lib.hid (box1 hb).2.2
    clear hb
    go_wp2_with fail
    go_ret2
    exact ⟨by rw [HE.out]; rfl, HB.out⟩
  case false =>
    have h0 : CE = 0 := by simpa using q
    subst h0
    have HE := Lib.hid (show EV = ES by rw [HV.out, if_pos rfl])
    have HIN := Lib.hid (HI.out rfl)
    clear q
    go_enter Tryz.func33, Tryz.ntmps33
    go_wp2_with fail
    refine (HC.out _).mono ?_
    rintro e w1 ⟨rfl, hb⟩
    obtain ⟨k1, hz, hb1⟩ := box1 hb
    have K1 := Lib.hid k1
    have HB := Lib.hid hb1
    have HZ := Lib.hid hz
    have r0 := cell_c (blk_later K1.out (bx w1 (.cells #[.string ByteArray.empty, .string ByteArray.empty, .string ByteArray.empty, .string ByteArray.empty, .string ByteArray.empty, .string ByteArray.empty, .string ByteArray.empty, .string ByteArray.empty, .string ByteArray.empty, .string ByteArray.empty, .string ByteArray.empty, .string ByteArray.empty] 9))) 0
    have hmk := make12 w1
    clear hb hb1 k1 hz
    go_wp2_with fail
    refine (itoa_any K _ (HW.out.below (HB.out.alloc HB.out.size _)).1 (by have := HIN.out; omega) (by have := HIN.out; omega)).mono ?_
    rintro e w2 ⟨rfl, hb⟩
    obtain ⟨kA, hz2, hb2⟩ := box1 hb
    have KA := Lib.hid kA
    have K2 := Lib.hid (blk_later K1.out hb2)
    have HB2 := Lib.hid (HB.out.trans (hb2.mono HB.out.size))
    have HA := Lib.hid (show w.heap.size ≤ w1.heap.size from HB.out.size)
    have HNE := Lib.hid (show w.heap.size ≠ w1.heap.size by have := HZ.out; omega)
    clear hmk hb kA hz2 hb2 r0
    generalize w1.heap.size = A at *
    have r1 := cell_c K2.out 1
    have r2 := cell_c K2.out 2
    have r3 := cell_c K2.out 3
    have r4 := cell_c K2.out 4
    have r5 := cell_c K2.out 5
    have r6 := cell_c K2.out 6
    have r7 := cell_c K2.out 7
    have a0 := cell_c KA.out 0
    have b0 := cell_f KA.out 0
    have a1 := cell_c KA.out 1
    have b1 := cell_f KA.out 1
    have a2 := cell_c KA.out 2
    have b2 := cell_f KA.out 2
    have a3 := cell_c KA.out 3
    have b3 := cell_f KA.out 3
    have a4 := cell_c KA.out 4
    have b4 := cell_f KA.out 4
    have a5 := cell_c KA.out 5
    have b5 := cell_f KA.out 5
    have a6 := cell_c KA.out 6
    have b6 := cell_f KA.out 6
    go_wp2_with fail
    refine (fint_any a _ (HW.out.below (((((((HB2.out.setCell (p := ⟨A, 0, none⟩) HA.out _).setCell (p := ⟨A, 1, none⟩) HA.out _).setCell (p := ⟨A, 2, none⟩) HA.out _).setCell (p := ⟨A, 3, none⟩) HA.out _).setCell (p := ⟨A, 4, none⟩) HA.out _).setCell (p := ⟨A, 5, none⟩) HA.out _).setCell (p := ⟨A, 6, none⟩) HA.out _)).1 (by have := HIN.out; omega) (by have := HIN.out; omega)).mono ?_
    rintro e w3 ⟨rfl, hb⟩
    have HB3 := Lib.hid ((((((((HB2.out.setCell (p := ⟨A, 0, none⟩) HA.out _).setCell (p := ⟨A, 1, none⟩) HA.out _).setCell (p := ⟨A, 2, none⟩) HA.out _).setCell (p := ⟨A, 3, none⟩) HA.out _).setCell (p := ⟨A, 4, none⟩) HA.out _).setCell (p := ⟨A, 5, none⟩) HA.out _).setCell (p := ⟨A, 6, none⟩) HA.out _).trans (hb.mono (((((((HB2.out.setCell (p := ⟨A, 0, none⟩) HA.out _).setCell (p := ⟨A, 1, none⟩) HA.out _).setCell (p := ⟨A, 2, none⟩) HA.out _).setCell (p := ⟨A, 3, none⟩) HA.out _).setCell (p := ⟨A, 4, none⟩) HA.out _).setCell (p := ⟨A, 5, none⟩) HA.out _).setCell (p := ⟨A, 6, none⟩) HA.out _).size))
    have KA3 : Hid (w3.heap[A]? = some (.cells #[.string (itoS K), .string id, .string au, .string aq, .string iss, .string me, .string ca, .string ByteArray.empty, .string ByteArray.empty, .string ByteArray.empty, .string ByteArray.empty, .string ByteArray.empty] 9)) := Lib.hid (blk_later (heap_setCell_same _ A 6 _ _ _ (heap_setCell_same _ A 5 _ _ _ (heap_setCell_same _ A 4 _ _ _ (heap_setCell_same _ A 3 _ _ _ (heap_setCell_same _ A 2 _ _ _ (heap_setCell_same _ A 1 _ _ _ (heap_setCell_same _ A 0 _ _ _ KA.out))))))) hb)
    have K3 : Hid (w3.heap[w.heap.size]? = some (.cells #[.int .i64 K, .string id, .string au, .string aq, .string iss, .string me, .string ca, .int .i64 a, .string cu, .int .i64 d, .int .i64 c, .bool f] 57)) := Lib.hid (blk_later ((heap_setCell_other _ ⟨A, 6, none⟩ _ _ HNE.out).trans ((heap_setCell_other _ ⟨A, 5, none⟩ _ _ HNE.out).trans ((heap_setCell_other _ ⟨A, 4, none⟩ _ _ HNE.out).trans ((heap_setCell_other _ ⟨A, 3, none⟩ _ _ HNE.out).trans ((heap_setCell_other _ ⟨A, 2, none⟩ _ _ HNE.out).trans ((heap_setCell_other _ ⟨A, 1, none⟩ _ _ HNE.out).trans ((heap_setCell_other _ ⟨A, 0, none⟩ _ _ HNE.out).trans K2.out))))))) hb)
    clear hb r1 r2 r3 r4 r5 r6 r7 a0 b0 a1 b1 a2 b2 a3 b3 a4 b4 a5 b5 a6 b6
    have r8 := cell_c K3.out 8
    have r9 := cell_c K3.out 9
    have a7 := cell_c KA3.out 7
    have b7 := cell_f KA3.out 7
    have a8 := cell_c KA3.out 8
    have b8 := cell_f KA3.out 8
    go_wp2_with fail
    refine (itoa_any d _ (HW.out.below ((HB3.out.setCell (p := ⟨A, 7, none⟩) HA.out _).setCell (p := ⟨A, 8, none⟩) HA.out _)).1 (by have := HIN.out; omega) (by have := HIN.out; omega)).mono ?_
    rintro e w4 ⟨rfl, hb⟩
    have HB4 := Lib.hid (((HB3.out.setCell (p := ⟨A, 7, none⟩) HA.out _).setCell (p := ⟨A, 8, none⟩) HA.out _).trans (hb.mono ((HB3.out.setCell (p := ⟨A, 7, none⟩) HA.out _).setCell (p := ⟨A, 8, none⟩) HA.out _).size))
    have KA4 : Hid (w4.heap[A]? = some (.cells #[.string (itoS K), .string id, .string au, .string aq, .string iss, .string me, .string ca, .string (itoS a), .string cu, .string ByteArray.empty, .string ByteArray.empty, .string ByteArray.empty] 9)) := Lib.hid (blk_later (heap_setCell_same _ A 8 _ _ _ (heap_setCell_same _ A 7 _ _ _ KA3.out)) hb)
    have K4 : Hid (w4.heap[w.heap.size]? = some (.cells #[.int .i64 K, .string id, .string au, .string aq, .string iss, .string me, .string ca, .int .i64 a, .string cu, .int .i64 d, .int .i64 c, .bool f] 57)) := Lib.hid (blk_later ((heap_setCell_other _ ⟨A, 8, none⟩ _ _ HNE.out).trans ((heap_setCell_other _ ⟨A, 7, none⟩ _ _ HNE.out).trans K3.out)) hb)
    clear hb r8 r9 a7 b7 a8 b8
    have r10 := cell_c K4.out 10
    have a9 := cell_c KA4.out 9
    have b9 := cell_f KA4.out 9
    go_wp2_with fail
    refine (itoa_any c _ (HW.out.below (HB4.out.setCell (p := ⟨A, 9, none⟩) HA.out _)).1 (by have := HIN.out; omega) (by have := HIN.out; omega)).mono ?_
    rintro e w5 ⟨rfl, hb⟩
    have HB5 := Lib.hid ((HB4.out.setCell (p := ⟨A, 9, none⟩) HA.out _).trans (hb.mono (HB4.out.setCell (p := ⟨A, 9, none⟩) HA.out _).size))
    have KA5 : Hid (w5.heap[A]? = some (.cells #[.string (itoS K), .string id, .string au, .string aq, .string iss, .string me, .string ca, .string (itoS a), .string cu, .string (itoS d), .string ByteArray.empty, .string ByteArray.empty] 9)) := Lib.hid (blk_later (heap_setCell_same _ A 9 _ _ _ KA4.out) hb)
    have K5 : Hid (w5.heap[w.heap.size]? = some (.cells #[.int .i64 K, .string id, .string au, .string aq, .string iss, .string me, .string ca, .int .i64 a, .string cu, .int .i64 d, .int .i64 c, .bool f] 57)) := Lib.hid (blk_later ((heap_setCell_other _ ⟨A, 9, none⟩ _ _ HNE.out).trans K4.out) hb)
    clear hb r10 a9 b9
    have HJ : Hid (∀ (W : World) (xs : List ByteArray), xs.length = 12 → (∀ (j : Nat) x, xs[j]? = some x → W.cell? ⟨A, 0 + j, none⟩ = some (.string x)) → A < W.heap.size → (Lib.join (xs.map (·.data.toList)) [124]).length ≤ 140737488355328 →
        Calls Tryz.prog 80 #[.slice (some ⟨A, 0, none⟩) 12 12, .string ⟨#[124]⟩] W fun e w' => e = .returned (.string ⟨(Lib.join (xs.map (·.data.toList)) [124]).toArray⟩) ∧ Below W.heap.size W w') := Lib.hid (fun W xs hl hcells hA hlen => by
      have h := Tryz.strings_Join A 0 12 xs ⟨#[124]⟩ W hcells hA (by omega) (by omega) hlen
      rw [hl] at h
      exact h)
    have HAL := Lib.hid (show A < w5.heap.size from World.block_lt_of_cell? _ _ (cell_c KA5.out 0))
    have HLEN : Hid (∀ s : ByteArray, s.size ≤ 1 → (Lib.join ([itoS K, id, au, aq, iss, me, ca, itoS a, cu, itoS d, itoS c, s].map (·.data.toList)) [124]).length ≤ 140737488355328) := Lib.hid (fun s hs => by
      have h1 := itoS_len K
      have h2 := itoS_len a
      have h3 := itoS_len d
      have h4 := itoS_len c
      have h5 := HIN.out
      have h6 := HSZ.out
      rw [List.map_cons, Lib.join_length]
      simp [Lib.lens] at *
      omega)
    cases f with
    | false =>
      have r11 := cell_c K5.out 11
      have a10 := cell_c KA5.out 10
      have b10 := cell_f KA5.out 10
      have a11 := cell_c KA5.out 11
      have b11 := cell_f KA5.out 11
      have n1 : w.heap.size ≠ A := HNE.out
      have n2 : A ≠ w.heap.size := fun h => HNE.out h.symm
      go_wp2_with fail
      refine (HJ.out _ [itoS K, id, au, aq, iss, me, ca, itoS a, cu, itoS d, itoS c, ⟨#[48]⟩] rfl (cells_xs (heap_setCell_same _ A 11 _ _ _ (heap_setCell_same _ A 10 _ _ _ KA5.out))) (by simp only [World.setCell, Array.size_modify]; exact HAL.out) (HLEN.out _ (by decide))).mono ?_
      rintro e w6 ⟨rfl, hb⟩
      have HB6 := Lib.hid (((HB5.out.setCell (p := ⟨A, 10, none⟩) HA.out _).setCell (p := ⟨A, 11, none⟩) HA.out _).trans (hb.mono ((HB5.out.setCell (p := ⟨A, 10, none⟩) HA.out _).setCell (p := ⟨A, 11, none⟩) HA.out _).size))
      clear hb r11 a10 b10 a11 b11
      go_wp2_with fail
      go_ret2
      exact ⟨by rw [HE.out, HS.out]; rfl, HB6.out⟩
    | true =>
      have r11 := cell_c K5.out 11
      have a10 := cell_c KA5.out 10
      have b10 := cell_f KA5.out 10
      have a11 := cell_c KA5.out 11
      have b11 := cell_f KA5.out 11
      have n1 : w.heap.size ≠ A := HNE.out
      have n2 : A ≠ w.heap.size := fun h => HNE.out h.symm
      go_wp2_with fail
      refine (HJ.out _ [itoS K, id, au, aq, iss, me, ca, itoS a, cu, itoS d, itoS c, ⟨#[49]⟩] rfl (cells_xs (heap_setCell_same _ A 11 _ _ _ (heap_setCell_same _ A 11 _ _ _ (heap_setCell_same _ A 10 _ _ _ KA5.out)))) (by simp only [World.setCell, Array.size_modify]; exact HAL.out) (HLEN.out _ (by decide))).mono ?_
      rintro e w6 ⟨rfl, hb⟩
      have HB6 := Lib.hid ((((HB5.out.setCell (p := ⟨A, 10, none⟩) HA.out _).setCell (p := ⟨A, 11, none⟩) HA.out _).setCell (p := ⟨A, 11, none⟩) HA.out _).trans (hb.mono (((HB5.out.setCell (p := ⟨A, 10, none⟩) HA.out _).setCell (p := ⟨A, 11, none⟩) HA.out _).setCell (p := ⟨A, 11, none⟩) HA.out _).size))
      clear hb r11 a10 b10 a11 b11
      go_wp2_with fail
      go_ret2
      exact ⟨by rw [HE.out, HS.out]; rfl, HB6.out⟩
end Go.Proofs.YthflmdgfenojcaaGreatDoor
namespace Go.Proofs.YthflmdgfenojcaaGreatDoor
set_option linter.unusedVariables false
open Go.RowKit
instance (x : ByteArray) (l : List ByteArray) : Decidable (x ∈ l) := decidable_of_iff (l.any (fun y => decide (y = x)) = true) (by simp)
theorem idsOf_succ (l : List Rec) (k : Nat) (h : k < l.length) : idsOf (l.take (k + 1)) = idsOf (l.take k) ++ [(rcAt l k).id] := by
  unfold idsOf; rw [List.take_succ_eq_append_getElem h, List.map_append, rcAt_get l k h]; rfl
end Go.Proofs.YthflmdgfenojcaaGreatDoor
namespace Go.Proofs.YthflmdgfenojcaaGreatDoor
set_option linter.unusedVariables false
open Go.RowKit
set_option maxHeartbeats 1600000 in
theorem bdec_any (n : Int) (w : World) (ht : TabW w) (h0 : -9223372036854775808 ≤ n) (h1 : n ≤ 9223372036854775807) : Calls Tryz.prog 95 #[.int .i64 n] w fun e w' => e = .returned (.string (itoS n)) ∧ Below w.heap.size w w' := by
  have HF := Lib.hid (fint_any n w ht h0 h1)
  clear ht h0 h1
  go_enter Tryz.func95, Tryz.ntmps95
  go_wp2_with fail
  refine HF.out.mono ?_
  rintro e w' ⟨rfl, hb⟩
  have HB := Lib.hid hb
  clear hb
  go_wp2_with fail
  go_ret
  exact ⟨rfl, HB.out⟩
end Go.Proofs.YthflmdgfenojcaaGreatDoor
namespace Go.Proofs.YthflmdgfenojcaaGreatDoor
set_option linter.unusedVariables false
open Go.RowKit
theorem hdrB_mk (id sd : ByteArray) (dt : Int) (rs : List Rec) : hdrB ⟨id, sd, dt, rs⟩ = lineB [hB, id, sd, itoS dt] := rfl
theorem rd_bad1 (s : ByteArray) (n : Nat) (h : (rdK s (n + 1)).bad = []) : (rdK s n).bad = [] ∧ ptD (hdP s 2) (rdK s n).rs (rcL s n) = 0 := by
  rw [rdK_succ] at h
  generalize rdK s n = st at *
  by_cases q : ptD (hdP s 2) st.rs (rcL s n) = 0
  · rw [rdStep_ok q] at h; exact ⟨h, q⟩
  · rw [rdStep_no q] at h; simp at h
theorem rd_bad (s : ByteArray) (n : Nat) : (rdK s n).bad = [] → ∀ k, k ≤ n → (rdK s k).bad = [] := by
  induction n with
  | zero =>
    intro h k hk
    obtain rfl : k = 0 := by omega
    exact h
  | succ n ih =>
    intro h k hk
    rcases Nat.lt_or_ge k (n + 1) with c | c
    · exact ih (rd_bad1 s n h).1 k (by omega)
    · obtain rfl : k = n + 1 := by omega
      exact h
theorem rd_all (s : ByteArray) (n : Nat) (h : (rdK s n).bad = []) (k : Nat) : k ≤ n → (rdK s k).rs = (List.range k).map (fun j => decV (txtOf (rcL s j))) ∧ ∀ j, j < k → decE (txtOf (rcL s j)) = 0 := by
  induction k with
  | zero => exact fun _ => ⟨rfl, fun j hj => absurd hj (Nat.not_lt_zero _)⟩
  | succ k ih =>
    intro hk
    obtain ⟨ih1, ih2⟩ := ih (by omega)
    have q := (rd_bad1 s k (rd_bad s n h (k + 1) hk)).2
    rw [rdK_succ, rdStep_ok q]
    refine ⟨?_, fun j hj => ?_⟩
    · show (rdK s k).rs ++ [decV (txtOf (rcL s k))] = _
      rw [List.range_succ, List.map_append, ← ih1]; rfl
    · rcases Nat.lt_or_ge j k with c | c
      · exact ih2 j c
      · obtain rfl : j = k := by omega
        exact (ptD_zero q).1
theorem list4 (l : List ByteArray) (h : l.length = 4) : ∃ a b c d, l = [a, b, c, d] := by
  match l, h with
  | [a, b, c, d], _ => exact ⟨a, b, c, d, rfl⟩
theorem list5 (l : List ByteArray) (h : l.length = 5) : ∃ a b c d e, l = [a, b, c, d, e] := by
  match l, h with
  | [a, b, c, d, e], _ => exact ⟨a, b, c, d, e, rfl⟩
theorem line_cut (x : ByteArray) : lineB (cutS x) = x := by
  apply ba_ext
  rw [lineB_data, cutS_data, join_cut]
set_option maxHeartbeats 3200000 in
/-- The text of what is decoded without rejects is the text. -/
theorem enc_of_dec {s : ByteArray} (h : fileE s = 0) (hb : fileB s = []) : encB (fileV s) = s := by
  have hgood := dec_good h
  obtain ⟨hsx, ⟨⟨a1, a2, a3⟩, hck, ⟨b1, b2, b3⟩, hrc⟩, hcd, htot, hn, hh, hcnt⟩ := file_zero h
  have HT := Lib.hid htot
  clear htot hh
  have hbad : (rdK s (nRc s)).bad = [] := by unfold fileB at hb; rw [if_pos h] at hb; exact hb
  obtain ⟨hrs, hdec⟩ := rd_all s (nRc s) hbad (nRc s) (Nat.le_refl _)
  have hfv := fileV_ok h
  clear h
  have hlen : (fileV s).rs.length = nRc s := by rw [hfv]; show (rdK s (nRc s)).rs.length = _; rw [hrs]; simp
  have hrat : ∀ j, j < nRc s → rcAt (fileV s).rs j = decV (txtOf (rcL s j)) := fun j hj => by
    rw [rcAt_get _ _ (by omega)]
    simp only [hfv, hrs, List.getElem_map, List.getElem_range]
  have hline : ∀ j, j < nRc s → recB (rcAt (fileV s).rs j) = rcL s j := fun j hj => by
    apply ba_ext
    rw [hrat j hj, recB_data, (enc_dec (hdec j hj)).2, ← txt_rline _ (hrc j hj)]
  -- the header
  have hH : hdrB (fileV s) = lnAt s 0 := by
    obtain ⟨x0, x1, x2, x3, hx⟩ := list4 _ a1
    have e0 : hdP s 0 = x0 := by unfold hdP; rw [hx]; rfl
    have e1 : hdP s 1 = x1 := by unfold hdP; rw [hx]; rfl
    have e2 : hdP s 2 = x2 := by unfold hdP; rw [hx]; rfl
    have e3 : hdP s 3 = x3 := by unfold hdP; rw [hx]; rfl
    rw [← line_cut (lnAt s 0), hx]
    rw [hfv, hdrB_mk, num_back a3, e1, e2, e3, ← e0, a2]; rfl
  -- the totals
  have hcl : (clmL s).length = nRc s := by unfold clmL recLs; simp
  have hat : ∀ j, j < nRc s → rcAt (clmL s) j = clm (rcL s j) := fun j hj => by
    rw [rcAt_get _ _ (by omega)]
    unfold clmL recLs
    simp only [List.getElem_map, List.getElem_range]
  have hfl : ∀ j, j < nRc s → (clm (rcL s j)).k = (rcAt (fileV s).rs j).k ∧ (clm (rcL s j)).a = (rcAt (fileV s).rs j).a ∧ (clm (rcL s j)).ca = (rcAt (fileV s).rs j).ca := fun j hj => by
    have z := (enc_dec (hdec j hj)).1
    rw [← hrat j hj] at z
    obtain ⟨f1, f2, f3, f4, _⟩ := Fit.ints _ z
    have := cut_recB z
    rw [hline j hj] at this
    exact clm_fields this (by omega) (by omega)
  have hds := debS_congr (l := clmL s) (m := (fileV s).rs) (by omega) (fun j hj => by
    have hj' : j < nRc s := by omega
    rw [hat j hj']; exact deb_clm (hfl j hj').1 (hfl j hj').2.1) (nRc s) (by omega)
  have hcards : cardsOf (clmL s) = cardsOf (fileV s).rs := by
    unfold cardsOf
    apply List.ext_getElem
    · simp [hcl, hlen]
    · intro j u1 u2
      rw [List.length_map] at u1 u2
      rw [List.getElem_map, List.getElem_map, ← rcAt_get _ _ u1, ← rcAt_get _ _ u2, hat j (by omega)]
      exact (hfl j (by omega)).2.2
  have hT : trlB (fileV s) = lnAt s (nLn s - 2) := by
    obtain ⟨x0, x1, x2, x3, x4, hx⟩ := list5 _ b1
    have e0 : trP s 0 = x0 := by unfold trP; rw [hx]; rfl
    have e1 : trP s 1 = x1 := by unfold trP; rw [hx]; rfl
    have e2 : trP s 2 = x2 := by unfold trP; rw [hx]; rfl
    have e3 : trP s 3 = x3 := by unfold trP; rw [hx]; rfl
    have e4 : trP s 4 = x4 := by unfold trP; rw [hx]; rfl
    rw [← line_cut (lnAt s (nLn s - 2)), hx]
    unfold trlB
    obtain ⟨t1, t2, t3, t4⟩ := HT.out
    rw [hlen, ← hds.1, ← hds.2, ← hcards, ← t1, ← t2, ← t3, ← t4, num_back (b3 0 (by omega)), num_back (b3 1 (by omega)), num_back (b3 2 (by omega)), num_back (b3 3 (by omega))]
    rw [e1, e2, e3, e4, ← e0, b2]; rfl
  -- all lines
  have hn3 : nLn s = nRc s + 3 := by
    obtain ⟨q1, q2⟩ := suffix_form hsx
    have q3 := lnS_len (bodyOf s)
    rw [count_lf] at q3 hcnt
    rw [q1, List.count_append] at hcnt
    have : ([10] : List UInt8).count 10 = 1 := rfl
    unfold nRc nLn
    omega
  have hall : lnS (bodyOf s) = lnAt s 0 :: ((fileV s).rs.map recB ++ [lnAt s (nLn s - 2), ckL s]) := by
    apply List.ext_getElem
    · have : (lnS (bodyOf s)).length = nLn s := rfl
      simp [this, hn3, hlen]
    · intro j u1 u2
      have u3 : j < nLn s := u1
      rw [← prt_get u1]
      show lnAt s j = _
      cases j with
      | zero => rfl
      | succ j =>
        rw [List.getElem_cons_succ]
        have hm : ((fileV s).rs.map recB).length = nRc s := by simp [hlen]
        rcases Nat.lt_or_ge j (nRc s) with c | c
        · rw [List.getElem_append_left (by omega), List.getElem_map, ← rcAt_get _ _ (by omega), hline j c]
          unfold rcL; rw [Nat.add_comm]
        · rw [List.getElem_append_right (by omega)]
          simp only [hm]
          have hj : j - nRc s = 0 ∨ j - nRc s = 1 := by omega
          rcases hj with hj | hj
          · simp only [hj, List.getElem_cons_zero]
            rw [show j + 1 = nLn s - 2 by omega]
          · simp only [hj, List.getElem_cons_succ, List.getElem_cons_zero]
            unfold ckL; rw [show j + 1 = nLn s - 1 by omega]
  have hbody : (bodyOf s).data.toList ++ [10] = (lnAt s 0 :: ((fileV s).rs.map recB ++ [lnAt s (nLn s - 2), ckL s])).flatMap (fun x => x.data.toList ++ [10]) := by
    have hj := join_cut 10 (bodyOf s).data.toList
    rw [← lnS_data, hall] at hj
    have hf := flat_join (((fileV s).rs.map recB ++ [lnAt s (nLn s - 2), ckL s]).map (·.data.toList)) (lnAt s 0).data.toList
    rw [List.map_cons] at hj
    rw [hj] at hf
    rw [← hf, List.flatMap_cons, List.flatMap_cons, List.flatMap_map]
  have hs := (suffix_form hsx).1
  rw [hbody] at hs
  have hcv := cov_form hsx
  have hB : bodyL (fileV s) = (cov s).data.toList := by
    have e2 : bodyL (fileV s) = (hdrB (fileV s)).data.toList ++ [10] ++ ((fileV s).rs.map recB).flatMap (fun x => x.data.toList ++ [10]) ++ ((trlB (fileV s)).data.toList ++ [10]) := by
      unfold bodyL bodyK
      rw [List.take_length, List.flatMap_map]; rfl
    rw [hs] at hcv
    simp only [List.flatMap_cons, List.flatMap_append, List.flatMap_nil, List.append_nil] at hcv
    rw [e2, hH, hT]
    simp only [← List.append_assoc] at hcv
    have h1 := List.append_cancel_right hcv
    have h2 := List.append_cancel_right h1
    simp only [← List.append_assoc]
    exact h2
  apply ba_ext
  rw [enc_data hgood, textL, hB, chkL_form, hcv, (ck_form hck).1, hcd]
  simp only [List.append_assoc]; rfl
end Go.Proofs.YthflmdgfenojcaaGreatDoor
namespace Go.Proofs.YthflmdgfenojcaaGreatDoor
set_option linter.unusedVariables false
open Go.RowKit Go.Maps
/-- The state of Check's loop behind k records: the boxed file, the names so far. -/
structure CkS (b : Bat) (A : Option Addr) (cp k : Nat) (w W : World) : Prop where
  t : W.heap[w.heap.size]? = some (.cells #[.string b.id, .string b.sd, .int .i64 b.dt, .slice A b.rs.length cp] 61)
  s : SSet W (w.heap.size + 1) (idsOf (b.rs.take k))
  be : Below w.heap.size w W
  z : ∀ j, j < k → ptL b.sd b.rs j = 0
theorem CkS.start (b : Bat) (A : Option Addr) (cp : Nat) (w : World) : CkS b A cp 0 w ((w.alloc (.cells #[.string b.id, .string b.sd, .int .i64 b.dt, .slice A b.rs.length cp] 61)).alloc (.map #[] 0)) := by
  have e : (w.alloc (.cells #[.string b.id, .string b.sd, .int .i64 b.dt, .slice A b.rs.length cp] 61)).heap.size = w.heap.size + 1 := Array.size_push _
  refine ⟨blk_later (heap_alloc_new w _) (bx _ _), ?_, (bx w _).trans ((bx _ _).mono (by simp)), fun j hj => absurd hj (Nat.not_lt_zero _)⟩
  rw [← e]; exact SSet.made _
theorem CkS.below {b : Bat} {A : Option Addr} {cp k : Nat} {w W W' : World} (h : CkS b A cp k w W) (hb : Below W.heap.size W W') : CkS b A cp k w W' :=
  ⟨blk_later h.t hb, h.s.below hb, h.be.trans (hb.mono h.be.size), h.z⟩
theorem CkS.next {b : Bat} {A : Option Addr} {cp k : Nat} {w W W' : World} (h : CkS b A cp k w W) (hk : k < b.rs.length) (hs : SSet W' (w.heap.size + 1) (idsOf (b.rs.take k) ++ [(rcAt b.rs k).id])) (hg : W.grownBy W' (some (w.heap.size + 1))) (hz : ptL b.sd b.rs k = 0) : CkS b A cp (k + 1) w W' := by
  refine ⟨?_, by rw [idsOf_succ _ _ hk]; exact hs, h.be.grown hg h.be.size (fun x hx => by cases hx; omega), fun j hj => ?_⟩
  · rw [hg.block _ (Array.getElem?_eq_some_iff.1 h.t).1 (by simp)]; exact h.t
  · rcases Nat.lt_or_ge j k with c | c
    · exact h.z j c
    · obtain rfl : j = k := by omega
      exact hz
set_option maxRecDepth 1000000 in
set_option maxHeartbeats 12800000 in
theorem bcheck_any (A : Option Addr) (cp : Nat) (b : Bat) (w : World) (hr : IsRow w A (b.rs.flatMap recF)) (hok : BatOk b) (hc : b.rs.length ≤ cp) (hm : b.rs.length ≤ 100000) : Calls Tryz.prog 47 #[batV b A cp] w (PtPost (chkB b) w) := by
  have HR := Lib.hid hr
  have HOK := Lib.hid hok.r
  have HI := Lib.hid (fun W => bident_any b.id W hok.i)
  have HN := Lib.hid (fun W => lname_any b.sd W hok.s)
  have H5 := Lib.hid (fun h => chkB_head (b := b) (headE_5 h) (by decide))
  have H14 := Lib.hid (fun h1 h2 h3 => chkB_head (b := b) (headE_14 h1 h2 h3) (by decide))
  have H0 := Lib.hid (fun h1 h2 h3 => headE_0 (id := b.id) (sd := b.sd) (dt := b.dt) h1 h2 h3)
  have H3 := Lib.hid (chkB_3 (b := b))
  have HA := Lib.hid (fun h h2 k hk h3 h4 => chkB_at (b := b) h h2 k hk h3 h4)
  have HZ := Lib.hid (chkB_ok (b := b))
  have HS0 := CkS.start b A cp w
  clear hr hok
  unfold PtPost
  generalize chkB b = CB at *
  obtain ⟨id, sd, dt, rs⟩ := b
  unfold batV
  dsimp only at *
  have HS0 := Lib.hid HS0
  cases qi : idB id with
  | false =>
    have he := Lib.hid (H5.out (fun h => by rw [qi] at h; exact absurd h.1 (by decide)))
    rw [qi] at HI
    clear H5 H14 H0 H3 HA HZ HS0 qi
    go_enter Tryz.func47, Tryz.ntmps47
    go_wp2_with fail
    refine (HI.out _).mono ?_
    rintro e w1 ⟨rfl, rfl⟩
    go_wp2_with fail
    go_ret
    exact ⟨by rw [he.out]; rfl, bx _ _⟩
  | true =>
  cases qn : nameB sd.data.toList with
  | false =>
    have he := Lib.hid (H5.out (fun h => by rw [qn] at h; exact absurd h.2 (by decide)))
    rw [qi] at HI
    rw [qn] at HN
    clear H5 H14 H0 H3 HA HZ HS0 qi qn
    go_enter Tryz.func47, Tryz.ntmps47
    go_wp2_with fail
    refine (HI.out _).mono ?_
    rintro e w1 ⟨rfl, rfl⟩
    go_wp2_with fail
    refine (HN.out _).mono ?_
    rintro e w1 ⟨rfl, rfl⟩
    go_wp2_with fail
    go_ret
    exact ⟨by rw [he.out]; rfl, bx _ _⟩
  | true =>
  have hd : dt < 0 ∨ (¬ dt < 0 ∧ 99999 < dt) ∨ (¬ dt < 0 ∧ ¬ 99999 < dt) := by omega
  have H14 := Lib.hid (H14.out qi qn)
  have H0 := Lib.hid (H0.out qi qn)
  rw [qi] at HI
  rw [qn] at HN
  clear H5 qi qn
  rcases hd with q | ⟨q, q'⟩ | ⟨q, q'⟩
  iterate 2
    · have he := Lib.hid (H14.out (by omega))
      clear H14 H0 H3 HA HZ HS0
      go_enter Tryz.func47, Tryz.ntmps47
      go_wp2_with fail
      refine (HI.out _).mono ?_
      rintro e w1 ⟨rfl, rfl⟩
      go_wp2_with fail
      refine (HN.out _).mono ?_
      rintro e w1 ⟨rfl, rfl⟩
      go_wp2_with fail
      go_ret
      exact ⟨by rw [he.out]; rfl, bx _ _⟩
  have h0 := Lib.hid (H0.out (by omega))
  have hl : 200 < rs.length ∨ rs.length ≤ 200 := by omega
  rcases hl with q2 | q2
  · have he := Lib.hid (H3.out h0.out q2)
    have q3 : (200 : Int) < (rs.length : Int) := by omega
    clear H14 H0 H3 HA HZ HS0
    go_enter Tryz.func47, Tryz.ntmps47
    go_wp2_with fail
    refine (HI.out _).mono ?_
    rintro e w1 ⟨rfl, rfl⟩
    go_wp2_with fail
    refine (HN.out _).mono ?_
    rintro e w1 ⟨rfl, rfl⟩
    go_wp2_with fail
    go_ret
    exact ⟨by rw [he.out]; rfl, bx _ _⟩
  · have q3 : ¬ (200 : Int) < (rs.length : Int) := by omega
    have HA := Lib.hid (HA.out h0.out q2)
    have HZ := Lib.hid (HZ.out h0.out q2)
    have hmm := @run_makeMap Tryz.prog
    clear H14 H0 H3
    go_enter Tryz.func47, Tryz.ntmps47
    go_wp2_with fail
    refine (HI.out _).mono ?_
    rintro e w1 ⟨rfl, rfl⟩
    go_wp2_with fail
    refine (HN.out _).mono ?_
    rintro e w1 ⟨rfl, rfl⟩
    go_wp2_with fail
    clear HI HN
    go_loopw [33] (fun i wr => ∃ k : Nat, k ≤ rs.length ∧ i = .int .i64 k ∧ Hid (CkS ⟨id, sd, dt, rs⟩ A cp k w wr)) (fun i _ => rs.length - (intOf i).toNat)
    case atStart => exact ⟨0, Nat.zero_le _, rfl, HS0⟩
    case round =>
      clear HS0
      obtain ⟨k, hk, rfl, HW⟩ := hrel
      by_cases hlt : k < rs.length
      · rcases row_rc HR.out k hlt with ⟨b, off, rfl, hcell⟩
        have HC := Lib.hid ((hcell k hlt).later HW.out.be)
        have HFT := Lib.hid (rcAt_fit HOK.out k hlt)
        have HP0 := Lib.hid (HA.out k hlt HW.out.z)
        have HP1 := Lib.hid (fun h => ptL_chk (sd := sd) (rs := rs) (k := k) h)
        have HP2 := Lib.hid (fun h h2 => ptL_aq (sd := sd) (rs := rs) (k := k) h h2)
        have HP3 := Lib.hid (fun h h2 h3 => ptL_id (sd := sd) (rs := rs) (k := k) h h2 h3)
        have HP4 := Lib.hid (fun h h2 h3 => ptL_ok (sd := sd) (rs := rs) (k := k) h h2 h3)
        have HNX := Lib.hid (fun W' W hs hg hz => (fun h : CkS ⟨id, sd, dt, rs⟩ (some ⟨b, off, none⟩) cp k w W => h.next (W' := W') hlt hs hg hz))
        dsimp only at HNX
        obtain ⟨r, hrk⟩ : ∃ r, rcAt rs k = r := ⟨_, rfl⟩
        rw [hrk] at HC HFT HP1 HP2 HP3 HP4 HNX
        have HCH := Lib.hid (fun W => chk_any r HFT.out W)
        unfold PtPost at HCH
        obtain ⟨E, hE⟩ : ∃ E, chkE r = E := ⟨_, rfl⟩
        obtain ⟨L, hL⟩ : ∃ L, idsOf (rs.take k) = L := ⟨_, rfl⟩
        have HLL : Hid (L.length < 1000000) := Lib.hid (by rw [← hL]; unfold idsOf; simp; omega)
        have HSL : Hid (∀ W, CkS ⟨id, sd, dt, rs⟩ (some ⟨b, off, none⟩) cp k w W → SSet W (w.heap.size + 1) L) := Lib.hid (fun W h => by rw [← hL]; exact h.s)
        rw [hE] at HCH HP1 HP2 HP3 HP4
        rw [hL] at HP3 HP4 HNX
        clear hE hL hrk hcell HR HA HZ
        obtain ⟨K, rid, au, aq, is, me, ca, a, cu, d, c, f⟩ := r
        have c0 := HC.out.c0
        have c1 := HC.out.c1
        have c2 := HC.out.c2
        have c3 := HC.out.c3
        have c4 := HC.out.c4
        have c5 := HC.out.c5
        have c6 := HC.out.c6
        have c7 := HC.out.c7
        have c8 := HC.out.c8
        have c9 := HC.out.c9
        have c10 := HC.out.c10
        have c11 := HC.out.c11
        unfold Rec.val Rec.cells at HCH
        dsimp only at *
        have hsz : rid.size ≤ maxLen := HFT.out.1
        have kI : (k : Int) < (rs.length : Int) := by omega
        have k0 : (0 : Int) ≤ (k : Int) := by omega
        have hwl : w.heap.size < wr.heap.size := (Array.getElem?_eq_some_iff.1 HW.out.t).1
        by_cases h0 : E = 0
        · subst h0
          by_cases haq : aq = sd
          · subst haq
            have hq := str_eq (a := aq) (b := aq) rfl
            by_cases hin : rid ∈ L
            · have hdc := decide_eq_true hin
              have HP := Lib.hid ((HP0.out (by rw [HP3.out rfl rfl hin]; decide)).trans (HP3.out rfl rfl hin))
              clear hin HP0 HP1 HP2 HP3 HP4 HNX
              go_wp2_with fail
              refine (HCH.out _).mono ?_
              rintro e w1 ⟨rfl, hb⟩
              obtain ⟨kR, hz, hb1⟩ := box1 hb
              have HW1 := Lib.hid (HW.out.below hb1)
              have a1 := cell_c kR 1
              have a3 := cell_c kR 3
              have t1 := cell_c HW1.out.t 1
              have hlk := (HSL.out _ HW1.out).look rid hsz
              rw [hdc] at hlk
              clear kR hb hb1 hdc
              simp at a1 a3 t1
              go_wp2_with fail
              go_ret
              exact ⟨by rw [HP.out]; rfl, HW1.out.be⟩
            · have hdc := decide_eq_false hin
              have HP := Lib.hid (HP4.out rfl rfl hin)
              clear hin HP0 HP1 HP2 HP3 HP4
              go_wp2_with fail
              refine (HCH.out _).mono ?_
              rintro e w1 ⟨rfl, hb⟩
              obtain ⟨kR, hz, hb1⟩ := box1 hb
              have HW1 := Lib.hid (HW.out.below hb1)
              have a1 := cell_c kR 1
              have a3 := cell_c kR 3
              have t1 := cell_c HW1.out.t 1
              have hlk := (HSL.out _ HW1.out).look rid hsz
              rw [hdc] at hlk
              obtain ⟨w2, hrun, hs2, hg2⟩ := (HSL.out _ HW1.out).put HLL.out rid hsz
              have HW2 := Lib.hid (HNX.out w2 w1 hs2 hg2 HP.out HW1.out)
              clear kR hb hb1 hdc hs2 hg2
              simp at a1 a3 t1
              go_wp2_with fail
              go_roundw
              case rel => exact ⟨k + 1, by omega, by go_num, HW2⟩
              case measure => simp [intOf]; omega
          · have hq := str_ne (a := aq) (b := sd) haq
            have HP := Lib.hid ((HP0.out (by rw [HP2.out rfl haq]; decide)).trans (HP2.out rfl haq))
            clear haq HP0 HP1 HP2 HP3 HP4 HNX
            go_wp2_with fail
            refine (HCH.out _).mono ?_
            rintro e w1 ⟨rfl, hb⟩
            obtain ⟨kR, hz, hb1⟩ := box1 hb
            have HW1 := Lib.hid (HW.out.below hb1)
            have a3 := cell_c kR 3
            have t1 := cell_c HW1.out.t 1
            clear kR hb hb1
            simp at a3 t1
            go_wp2_with fail
            go_ret
            exact ⟨by rw [HP.out]; rfl, HW1.out.be⟩
        · have heb : (E != 0) = true := by simpa using h0
          have HP := Lib.hid ((HP0.out (by rw [HP1.out h0]; exact h0)).trans (HP1.out h0))
          clear h0 HP0 HP1 HP2 HP3 HP4 HNX
          go_wp2_with fail
          refine (HCH.out _).mono ?_
          rintro e w1 ⟨rfl, hb⟩
          obtain ⟨kR, hz, hb1⟩ := box1 hb
          have HW1 := Lib.hid (HW.out.below hb1)
          clear kR hb hb1
          go_wp2_with fail
          go_ret
          exact ⟨by rw [HP.out]; rfl, HW1.out.be⟩
      · obtain rfl : k = rs.length := by omega
        have HP := Lib.hid (HZ.out HW.out.z)
        have kI : ¬ (rs.length : Int) < (rs.length : Int) := by omega
        go_wp2_with fail
        go_ret
        exact ⟨by rw [HP.out]; rfl, HW.out.be⟩
end Go.Proofs.YthflmdgfenojcaaGreatDoor
namespace Go.Proofs
theorem Tryz.lays166 : Lays.n166 Tryz.prog Tryz.lays156_ren := { Tryz.lays156 with }
def Tryz.lays167_ren : Go.Shelf.Ren := ⟨fun | 167 => 144 | 240 => 169 | 276 => 193 | n => n, fun | 31 => 22 | 9 => 9 | 3 => 3 | 4 => 4 | 0 => 0 | 20 => 20 | 72 => 138 | 76 => 168 | 70 => 136 | 37 => 80 | 75 => 167 | 127 => 173 | 164 => 209 | 5 => 5 | 80 => 140 | n => n, fun | n => n⟩
theorem Tryz.lays167 : Lays.n167 Tryz.prog Tryz.lays167_ren := {
  mixed := by kernel_rfl
  f167 := Tryz.func144.trans (congrArg some (by kernel_rfl))
  f240 := Tryz.func169.trans (congrArg some (by kernel_rfl))
  f276 := Tryz.func193.trans (congrArg some (by kernel_rfl))
  t0 := Tryz.underlying0
  a0 := Tryz.isAgg0
  z0 := Tryz.sizeOf0
  v0 := Tryz.zeroValue0
  t4 := Tryz.underlying4
  a4 := Tryz.isAgg4
  z4 := Tryz.sizeOf4
  v4 := Tryz.zeroValue4
  t5 := Tryz.underlying5
  a5 := Tryz.isAgg5
  z5 := Tryz.sizeOf5
  v5 := Tryz.zeroValue5
  t9 := Tryz.underlying9
  a9 := Tryz.isAgg9
  z9 := Tryz.sizeOf9
  v9 := Tryz.zeroValue9
  t20 := Tryz.underlying20
  a20 := Tryz.isAgg20
  z20 := Tryz.sizeOf20
  v20 := Tryz.zeroValue20
  t37 := Tryz.underlying80
  a37 := Tryz.isAgg80
  z37 := Tryz.sizeOf80
  v37 := Tryz.zeroValue80
  t70 := Tryz.underlying136
  a70 := Tryz.isAgg136
  z70 := Tryz.sizeOf136
  v70 := Tryz.zeroValue136
  t72 := Tryz.underlying138
  a72 := Tryz.isAgg138
  z72 := Tryz.sizeOf138
  v72 := Tryz.zeroValue138
  t75 := Tryz.underlying167
  a75 := Tryz.isAgg167
  z75 := Tryz.sizeOf167
  v75 := Tryz.zeroValue167
  t164 := Tryz.underlying209
  a164 := Tryz.isAgg209
  z164 := Tryz.sizeOf209
  v164 := Tryz.zeroValue209 }
theorem Tryz.Builder_Extra_167 : Builder.Extra Tryz.prog Tryz.lays167_ren := {
  sizeBuilder := by kernel_rfl
  liesBuilder := by kernel_rfl
  t5 := Tryz.underlying5
  a5 := Tryz.isAgg5
  z5 := Tryz.sizeOf5
  v5 := Tryz.zeroValue5
  infoByte := by kernel_rfl
  cellsByte := by kernel_rfl
  sizeByte := by kernel_rfl
  neB5 := by decide }
end Go.Proofs
namespace Go.Proofs.YthflmdgfenojcaaGreatDoor
set_option linter.unusedVariables false
open Go.RowKit
/-- A builder that lies at b with the bytes l, and what lies beside it. -/
def Bld (B b : Nat) (l : List UInt8) (w0 w : World) : Prop := Lib.IsBuilderF 138 5 B b (Lib.byteCells l) w ∧ Below B w0 w ∧ Lib.OthersKept 5 (some b) w0 w
def WPost (v : Value) (B b : Nat) (l : List UInt8) (w : World) (e : Ending) (w' : World) : Prop := e = .returned v ∧ Bld B b l w w'
theorem byteCells_app (l m : List UInt8) : Lib.byteCells (l ++ m) = Lib.byteCells l ++ Lib.byteCells m := by unfold Lib.byteCells; rw [List.map_append]
theorem wstr_any (B b : Nat) (l : List UInt8) (s : ByteArray) (w : World) (h : Lib.IsBuilderF 138 5 B b (Lib.byteCells l) w) (hl : l.length ≤ 100000000000) (hs : s.size ≤ 100000000000) (hB : B ≤ w.heap.size) :
    Calls Tryz.prog 133 #[.pointer (some ⟨b, 0, none⟩), .string s] w (WPost (.tuple #[.int .i64 s.size, .nilIface]) B b (l ++ s.data.toList) w) :=
  (Any.Builder_WriteString_k Tryz.lays166 Tryz.Builder_Extra_156 B b (Lib.byteCells l) s w h (by rw [Lib.byteCells_length]; omega) hB).mono fun e w' ⟨he, h1, h2, h3⟩ => ⟨he, .inr (by rw [byteCells_app]; exact h1), h2, h3⟩
theorem wbyt_any (B b : Nat) (l : List UInt8) (c : UInt8) (w : World) (h : Lib.IsBuilderF 138 5 B b (Lib.byteCells l) w) (hl : l.length ≤ 100000000000) (hB : B ≤ w.heap.size) :
    Calls Tryz.prog 144 #[.pointer (some ⟨b, 0, none⟩), .int .u8 c.toNat] w (WPost .nilIface B b (l ++ [c]) w) :=
  (Any.Builder_WriteByte_k Tryz.lays167 Tryz.Builder_Extra_167 B b (Lib.byteCells l) c.toNat w h (by rw [Lib.byteCells_length]; omega) hB).mono fun e w' ⟨he, h1, h2, h3⟩ => ⟨he, .inr (by rw [byteCells_app]; exact h1), h2, h3⟩
theorem Bld.trans {B b : Nat} {l m : List UInt8} {w0 w1 w2 : World} (h : Bld B b l w0 w1) (k : Bld B b m w1 w2) : Bld B b m w0 w2 := ⟨k.1, h.2.1.trans k.2.1, h.2.2.trans k.2.2⟩
theorem Bld.le {B b : Nat} {l : List UInt8} {w0 w1 : World} (h : Bld B b l w0 w1) (hB : B ≤ w0.heap.size) : B ≤ w1.heap.size := Nat.le_trans hB h.2.1.size
set_option maxRecDepth 1000000 in
set_option maxHeartbeats 6400000 in
theorem wline_any (B b g : Nat) (l : List UInt8) (ps : List ByteArray) (cs : Array Value) (T : TypeId) (cp : Nat) (w : World) (h : Lib.IsBuilderF 138 5 B b (Lib.byteCells l) w) (hl : l.length ≤ 10000000000) (hB : B ≤ w.heap.size)
    (hg : w.heap[g]? = some (.cells cs T)) (hT : T ≠ 5) (hgb : g ≠ b) (hcs : ∀ i, i < ps.length → cs[i]? = some (.string (strAt ps i))) (hn : ps.length ≤ 10) (hc : ps.length ≤ cp) (hsz : ∀ i, i < ps.length → (strAt ps i).size ≤ 1000000) :
    Calls Tryz.prog 94 #[.pointer (some ⟨b, 0, none⟩), .slice (some ⟨g, 0, none⟩) ps.length cp] w (WPost (.tuple #[]) B b (l ++ lineL ps) w) := by
  have HB0 : Hid (Bld B b (l ++ joinK ps 0) w w) := Lib.hid ⟨by rw [joinK_zero, List.append_nil]; exact h, Below.refl _ _, Lib.OthersKept.refl _ _ _⟩
  have HG := Lib.hid hg
  have HC := Lib.hid hcs
  have HJ : Hid (∀ k, k ≤ ps.length → (l ++ joinK ps k).length ≤ 20000000000) := Lib.hid (fun k hk => by
    have h1 := joinK_len ps 1000000 hsz k hk
    have h2 : k * (1000000 + 1) ≤ 10 * (1000000 + 1) := Nat.mul_le_mul_right _ (by omega)
    rw [List.length_append]; omega)
  have HS := Lib.hid hsz
  have HBW := Lib.hid hB
  have HT : Hid (∀ c fz, (Obj.cells cs T) ≠ .cells c 5 fz) := Lib.hid (fun c fz e => hT (by injection e))
  have HGB := Lib.hid hgb
  clear h hg hcs hsz hB hT hgb
  unfold WPost
  go_enter Tryz.func94, Tryz.ntmps94
  go_wp2_with fail
  go_loopw [8] (fun i wr => ∃ k : Nat, k ≤ ps.length ∧ i = .int .i64 k ∧ Hid (Bld B b (l ++ joinK ps k) w wr)) (fun i _ => ps.length - (intOf i).toNat)
  case atStart => exact ⟨0, Nat.zero_le _, rfl, HB0⟩
  case round =>
    clear HB0
    obtain ⟨k, hk, rfl, HW⟩ := hrel
    have HL := Lib.hid (HJ.out k hk)
    by_cases hlt : k < ps.length
    · have hcell : wr.cell? ⟨g, k, none⟩ = some (.string (strAt ps k)) := by
        rw [cell_c (HW.out.2.2 g _ HG.out (fun e => HGB.out (by injection e)) HT.out) k]; exact HC.out k hlt
      have kI : (k : Int) < (ps.length : Int) := by omega
      have k0 : (0 : Int) ≤ (k : Int) := by omega
      rcases Nat.eq_zero_or_pos k with h0 | h0
      · have hz : ¬ (0 : Int) < (k : Int) := by omega
        have HJ1 := Lib.hid (show l ++ joinK ps k ++ (strAt ps k).data.toList = l ++ joinK ps (k + 1) by rw [h0, joinK_zero, List.append_nil, joinK_one ps (by omega)])
        clear h0
        go_wp2_with fail
        refine (wstr_any B b _ (strAt ps k) _ HW.out.1 (by have := HL.out; omega) (by have := HS.out k hlt; omega) (HW.out.le HBW.out)).mono ?_
        rintro e w3 ⟨rfl, hb⟩
        have HW3 := Lib.hid (HW.out.trans hb)
        rw [HJ1.out] at HW3
        clear hb
        go_wp2_with fail
        go_roundw
        case rel => exact ⟨k + 1, by omega, by go_num, HW3⟩
        case measure => simp [intOf]; omega
      · have hz : (0 : Int) < (k : Int) := by omega
        have HJ1 := Lib.hid (show l ++ joinK ps k ++ [124] ++ (strAt ps k).data.toList = l ++ joinK ps (k + 1) by rw [joinK_succ ps k h0 hlt]; simp)
        clear h0
        have HWB := Lib.hid (wbyt_any B b (l ++ joinK ps k) 124 wr HW.out.1 (by have := HL.out; omega) (HW.out.le HBW.out))
        go_wp2_with fail
        refine HWB.out.mono ?_
        rintro e w2 ⟨rfl, hb⟩
        have HW2 := Lib.hid (HW.out.trans hb)
        clear hb
        go_wp2_with fail
        refine (wstr_any B b _ (strAt ps k) _ HW2.out.1 (by have := HL.out; rw [List.length_append, List.length_singleton]; omega) (by have := HS.out k hlt; omega) (HW2.out.le HBW.out)).mono ?_
        rintro e w3 ⟨rfl, hb⟩
        have HW3 := Lib.hid (HW2.out.trans hb)
        rw [HJ1.out] at HW3
        clear hb
        go_wp2_with fail
        go_roundw
        case rel => exact ⟨k + 1, by omega, by go_num, HW3⟩
        case measure => simp [intOf]; omega
    · obtain rfl : k = ps.length := by omega
      have HWB := Lib.hid (wbyt_any B b (l ++ joinK ps ps.length) 10 wr HW.out.1 (by have := HL.out; omega) (HW.out.le HBW.out))
      go_wp2_with fail
      refine HWB.out.mono ?_
      rintro e w2 ⟨rfl, hb⟩
      have HW2 := Lib.hid (HW.out.trans hb)
      clear hb
      go_wp2_with fail
      go_end0
      exact ⟨rfl, by unfold lineL; rw [← List.append_assoc]; exact HW2.out⟩
end Go.Proofs.YthflmdgfenojcaaGreatDoor
namespace Go.Proofs.YthflmdgfenojcaaGreatDoor
set_option linter.unusedVariables false
open Go.RowKit Go.Maps
theorem isbF_later {T e : TypeId} {B b : Nat} {bs : List Value} {w w' : World} (h : Lib.IsBuilderF T e B b bs w) (hb : Below w.heap.size w w') : Lib.IsBuilderF T e B b bs w' := by
  have key : ∀ p, Lib.BuilderAtF T e B b p bs w → Lib.BuilderAtF T e B b p bs w' := fun p ⟨h1, v, h2, h3, h4⟩ =>
    ⟨h1, v, blk_later h2 hb, h3.kept (row := none) ⟨hb.os, hb.tape, hb.output, hb.size, fun k hk _ => hb.block k hk⟩ (Classical.em _), h4⟩
  exact h.imp (key _) (key _)
/-- The boxed file and the builder with the bytes l. -/
structure EnS (b : Bat) (A : Option Addr) (cp B : Nat) (l : List UInt8) (w W : World) : Prop where
  t : W.heap[w.heap.size]? = some (.cells #[.string b.id, .string b.sd, .int .i64 b.dt, .slice A b.rs.length cp] 61)
  bl : Lib.IsBuilderF 138 5 B B (Lib.byteCells l) W
  be : Below w.heap.size w W
  lt : w.heap.size < B
  le : B < W.heap.size
section
variable {b : Bat} {A : Option Addr} {cp B : Nat} {l m : List UInt8} {w W W' X : World}
theorem EnS.below (h : EnS b A cp B l w W) (hb : Below W.heap.size W W') : EnS b A cp B l w W' :=
  ⟨blk_later h.t hb, isbF_later h.bl hb, h.be.trans (hb.mono h.be.size), h.lt, Nat.lt_of_lt_of_le h.le hb.size⟩
theorem EnS.wr (h : EnS b A cp B l w W) (k : Bld B B m W W') : EnS b A cp B m w W' :=
  ⟨(k.2.1.block _ h.lt).trans h.t, k.1, h.be.trans (k.2.1.mono (Nat.le_of_lt h.lt)), h.lt, Nat.lt_of_lt_of_le h.le k.2.1.size⟩
def EnP (b : Bat) (A : Option Addr) (cp B : Nat) (l : List UInt8) (w X : World) (e : Ending) (w' : World) : Prop := e = .returned (.tuple #[]) ∧ EnS b A cp B l w w' ∧ Lib.OthersKept 5 (some B) X w'
theorem EnS.line (h : EnS b A cp B l w X) (hl : l.length ≤ 10000000000) (ps : List ByteArray) (cs : Array Value) (hcs : ∀ i, i < ps.length → cs[i]? = some (.string (strAt ps i))) (hn : ps.length ≤ 10) (hsz : ∀ i, i < ps.length → (strAt ps i).size ≤ 1000000) :
    Calls Tryz.prog 94 #[.pointer (some ⟨B, 0, none⟩), .slice (some ⟨X.heap.size, 0, none⟩) ps.length ps.length] (X.alloc (.cells cs 9)) (EnP b A cp B (l ++ lineL ps) w X) := by
  have h2 := h.below (bx X (.cells cs 9))
  refine (wline_any B B X.heap.size l ps cs 9 ps.length _ h2.bl hl (Nat.le_of_lt h2.le) (heap_alloc_new X _) (by decide) (by have := h.le; omega) hcs hn (Nat.le_refl _) hsz).mono ?_
  rintro e w' ⟨he, hb⟩
  exact ⟨he, h2.wr hb, (((Lib.OthersKept.refl 5 (some B) X).alloc _).trans hb.2.2)⟩
theorem EnS.line2 (h : EnS b A cp B l w X) (hl : l.length ≤ 10000000000) (x y : ByteArray) (hx : x.size ≤ 1000000) (hy : y.size ≤ 1000000) :
    Calls Tryz.prog 94 #[.pointer (some ⟨B, 0, none⟩), .slice (some ⟨X.heap.size, 0, none⟩) 2 2] (X.alloc (.cells #[.string x, .string y] 9)) (EnP b A cp B (l ++ lineL [x, y]) w X) :=
  h.line hl [x, y] _ (hcs2 x y) (by simp) (hsz2 hx hy)
theorem EnS.line4 (h : EnS b A cp B l w X) (hl : l.length ≤ 10000000000) (x y z u : ByteArray) (hx : x.size ≤ 1000000) (hy : y.size ≤ 1000000) (hz : z.size ≤ 1000000) (hu : u.size ≤ 1000000) :
    Calls Tryz.prog 94 #[.pointer (some ⟨B, 0, none⟩), .slice (some ⟨X.heap.size, 0, none⟩) 4 4] (X.alloc (.cells #[.string x, .string y, .string z, .string u] 9)) (EnP b A cp B (l ++ lineL [x, y, z, u]) w X) :=
  h.line hl [x, y, z, u] _ (hcs4 x y z u) (by simp) (hsz4 hx hy hz hu)
theorem EnS.line5 (h : EnS b A cp B l w X) (hl : l.length ≤ 10000000000) (x y z u v : ByteArray) (hx : x.size ≤ 1000000) (hy : y.size ≤ 1000000) (hz : z.size ≤ 1000000) (hu : u.size ≤ 1000000) (hv : v.size ≤ 1000000) :
    Calls Tryz.prog 94 #[.pointer (some ⟨B, 0, none⟩), .slice (some ⟨X.heap.size, 0, none⟩) 5 5] (X.alloc (.cells #[.string x, .string y, .string z, .string u, .string v] 9)) (EnP b A cp B (l ++ lineL [x, y, z, u, v]) w X) :=
  h.line hl [x, y, z, u, v] _ (hcs5 x y z u v) (by simp) (hsz5 hx hy hz hu hv)
theorem EnS.row (h : EnS b A cp B l w W) : W.cell? ⟨w.heap.size, 0, none⟩ = some (.string b.id) ∧ W.cell? ⟨w.heap.size, 1, none⟩ = some (.string b.sd) ∧ W.cell? ⟨w.heap.size, 2, none⟩ = some (.int .i64 b.dt) :=
  ⟨cell_c h.t 0, cell_c h.t 1, cell_c h.t 2⟩
/-- With the totals in a block of their own. -/
structure EnT (b : Bat) (A : Option Addr) (cp B TB : Nat) (x0 x1 x2 x3 : Int) (l : List UInt8) (w W : World) : Prop where
  s : EnS b A cp B l w W
  tt : W.heap[TB]? = some (.cells #[.int .i64 x0, .int .i64 x1, .int .i64 x2, .int .i64 x3] 46)
variable {TB : Nat} {x0 x1 x2 x3 : Int}
theorem EnT.below (h : EnT b A cp B TB x0 x1 x2 x3 l w W) (hb : Below W.heap.size W W') : EnT b A cp B TB x0 x1 x2 x3 l w W' := ⟨h.s.below hb, blk_later h.tt hb⟩
theorem EnT.row (h : EnT b A cp B TB x0 x1 x2 x3 l w W) : W.cell? ⟨TB, 0, none⟩ = some (.int .i64 x0) ∧ W.cell? ⟨TB, 1, none⟩ = some (.int .i64 x1) ∧ W.cell? ⟨TB, 2, none⟩ = some (.int .i64 x2) ∧ W.cell? ⟨TB, 3, none⟩ = some (.int .i64 x3) :=
  ⟨cell_c h.tt 0, cell_c h.tt 1, cell_c h.tt 2, cell_c h.tt 3⟩
theorem EnT.wr (h : EnT b A cp B TB x0 x1 x2 x3 l w X) (hs : EnS b A cp B m w W') (ho : Lib.OthersKept 5 (some B) X W') (hne : TB ≠ B) : EnT b A cp B TB x0 x1 x2 x3 m w W' :=
  ⟨hs, ho TB _ h.tt (fun e => hne (by injection e)) (fun c fz e => by injection e with _ e; exact absurd e (by decide))⟩
end
set_option maxRecDepth 1000000 in
set_option maxHeartbeats 25600000 in
theorem benc_any (A : Option Addr) (cp : Nat) (b : Bat) (w : World) (hw : BW w) (hr : IsRow w A (b.rs.flatMap recF)) (hok : BatOk b) (hsz : ∀ x ∈ b.rs, szR x ≤ 500000) (hi : b.id.size ≤ 1000000) (hs : b.sd.size ≤ 1000000) (hc : b.rs.length ≤ cp) (hm : b.rs.length ≤ 100000) : Calls Tryz.prog 43 #[batV b A cp] w (BenPost b w) := by
  have HR := Lib.hid hr
  have HKW := Lib.hid hw
  have HCK := Lib.hid (fun W h => bcheck_any A cp b W h hok hc hm)
  unfold BenPost
  unfold PtPost batV at HCK
  unfold batV
  by_cases hE : chkB b = 0
  · have HE := Lib.hid hE
    obtain ⟨z1, z2, z3⟩ := chkB_zero hE
    obtain ⟨i1, i2, i3, i4⟩ := headE_zero z1
    rw [hE] at HCK ⊢
    have hrc : ∀ j, j < b.rs.length → chkE (rcAt b.rs j) = 0 ∧ (rcAt b.rs j).Fit ∧ szR (rcAt b.rs j) ≤ 1000000 ∧ (encS (rcAt b.rs j)).size ≤ 1000000 := fun j hj => by
      have h1 := (ptL_zero (z3 j hj)).1
      have h2 := hsz (rcAt b.rs j) (by rw [rcAt_get _ _ hj]; exact List.getElem_mem hj)
      have h3 := encS_size' h1
      exact ⟨h1, rcAt_fit hok.r j hj, by omega, by omega⟩
    have HRC := Lib.hid hrc
    have hln := bodyK_len hi hs (by omega) (fun j hj => (hrc j hj).2.2.2)
    have HLN : Hid (∀ k, k ≤ b.rs.length → (bodyK b k).length ≤ 1000000000) := Lib.hid (fun k hk => by have := hln k hk; omega)
    have HDT : Hid (0 ≤ b.dt ∧ b.dt ≤ 99999) := Lib.hid ⟨i3, i4⟩
    have HID := Lib.hid (And.intro hi hs)
    have HEN : Hid (encB b = ⟨(textL b).toArray⟩) := Lib.hid (by unfold encB; rw [if_pos hE])
    have HSM := Lib.hid (fun W h => bsum_any A cp b.rs W h hok.r hc (Nat.le_trans hm (by omega)))
    unfold SumPost totV at HSM
    have HDC := Lib.hid (deb_lt (b := b) z2)
    have HTB := Lib.hid (C7.totB_lt (cardsOf b.rs))
    have z2' : b.rs.length ≤ 200 := z2
    clear hr hw hok hsz hi hs hrc hln z1 z2 z3 i1 i2 i3 i4 hE hm
    go_enter Tryz.func43, Tryz.ntmps43
    go_wp2_with fail
    refine (HCK.out _ (HR.out.below (bx _ _))).mono ?_
    rintro e w1 ⟨rfl, hb⟩
    obtain ⟨kT, hz, hb1⟩ := box1 hb
    have HE0 : Hid (EnS b A cp w1.heap.size [] w (w1.alloc (.cells #[.pointer none, .slice none 0 0] 138))) := Lib.hid
      ⟨blk_later kT (bx _ _), Lib.IsBuilderF.of (.inl ⟨Nat.le_refl _, _, heap_alloc_new _ _, World.ownsRow_nil _ _ _ _, by simp [Value.ownBlock]⟩), hb1.trans ((bx _ _).mono hb1.size), hz, by show _ < (w1.heap.push _).size; simp⟩
    clear kT hz hb hb1 HCK
    go_wp2_with fail
    obtain ⟨W, hW⟩ : ∃ W, w1.alloc (.cells #[.pointer none, .slice none 0 0] 138) = W := ⟨_, rfl⟩
    rw [hW] at HE0 ⊢
    clear hW
    generalize w1.heap.size = B at *
    have HBW : Hid (EnS b A cp B [] w W.drew) := Lib.hid (HE0.out.below ((Below.refl _ _).drew))
    go_region_held3 (fun X => X.cell? ⟨w.heap.size, 0, none⟩ = some (.string b.id) ∧ X.cell? ⟨w.heap.size, 1, none⟩ = some (.string b.sd) ∧ X.cell? ⟨w.heap.size, 2, none⟩ = some (.int .i64 b.dt))
      (first | exact HBW.out.row | exact (HBW.out.below (bx _ _)).row)
      (first
        | (go_at_call 78; refine (itoa_any b.dt _ (HKW.out.below HBW.out.be).1.1 (by have := HDT.out; omega) (by have := HDT.out; omega)).mono ?_; rintro e w' ⟨rfl, hb⟩; have HBW := Lib.hid (HBW.out.below hb); clear hb)
        | (go_at_call 94; refine (HBW.out.line4 (by simp) ⟨#[72]⟩ b.id b.sd (itoS b.dt) (by decide) HID.out.1 HID.out.2 (Nat.le_trans (itoS_size _ (by have := HDT.out; omega)) (by omega))).mono ?_; rintro e w' ⟨rfl, hb, ho⟩; have HBW := Lib.hid hb; clear hb ho))
    have HB0 : Hid (EnS b A cp B (bodyK b 0) w w') := Lib.hid (by
      have e : bodyK b 0 = [] ++ lineL [⟨#[72]⟩, b.id, b.sd, itoS b.dt] := by unfold bodyK hdrL; simp
      rw [e]; exact HBW.out)
    clear HBW HE0
    obtain ⟨t3, ht3⟩ : ∃ v, w'.cell? ⟨w.heap.size, 3, none⟩ = some v ∧ v = .slice A b.rs.length cp := ⟨_, cell_c HB0.out.t 3, rfl⟩
    obtain ⟨ht3, rfl⟩ := ht3
    go_wp2_with fail
    go_loopw [29] (fun i wr => ∃ k : Nat, k ≤ b.rs.length ∧ i = .int .i64 k ∧ Hid (EnS b A cp B (bodyK b k) w wr)) (fun i _ => b.rs.length - (intOf i).toNat)
    case atStart => exact ⟨0, Nat.zero_le _, rfl, HB0⟩
    case round =>
      clear HB0 ht3
      obtain ⟨k, hk, rfl, HW⟩ := hrel
      have HLK := Lib.hid (HLN.out k hk)
      by_cases hlt : k < b.rs.length
      · rcases row_rc HR.out k hlt with ⟨g, off, rfl, hcell⟩
        have HC := Lib.hid ((hcell k hlt).later HW.out.be)
        obtain ⟨q1, q2, q3, q4⟩ := HRC.out k hlt
        have HENC : Hid (∀ W, KW W → Calls Tryz.prog 33 #[(rcAt b.rs k).val] W fun e w' => e = .returned (.tuple #[.string (encS (rcAt b.rs k)), .int .i64 0]) ∧ Below W.heap.size W w') := Lib.hid (fun W hW => by
          have := enc_any (rcAt b.rs k) q2 q3 W hW
          unfold EncPost at this
          unfold encV at this
          rw [q1, if_pos rfl] at this
          exact this)
        have HQ4 := Lib.hid q4
        have HNX : Hid (bodyK b (k + 1) = bodyK b k ++ lineL [⟨#[82]⟩, encS (rcAt b.rs k)]) := Lib.hid (bodyK_succ b k hlt)
        clear q1 q2 q3 q4 hcell
        generalize encS (rcAt b.rs k) = ES at *
        generalize rcAt b.rs k = r at *
        obtain ⟨K, rid, au, aq, is, me, ca, a, cu, d, c, f⟩ := r
        have c0 := HC.out.c0
        have c1 := HC.out.c1
        have c2 := HC.out.c2
        have c3 := HC.out.c3
        have c4 := HC.out.c4
        have c5 := HC.out.c5
        have c6 := HC.out.c6
        have c7 := HC.out.c7
        have c8 := HC.out.c8
        have c9 := HC.out.c9
        have c10 := HC.out.c10
        have c11 := HC.out.c11
        unfold Rec.val Rec.cells at HENC
        dsimp only at c0 c1 c2 c3 c4 c5 c6 c7 c8 c9 c10 c11 HENC
        have kI : (k : Int) < (b.rs.length : Int) := by omega
        have k0 : (0 : Int) ≤ (k : Int) := by omega
        have hBl := HW.out.le
        go_wp2_with fail
        refine (HENC.out _ (HKW.out.below (HW.out.be.trans ((bx wr _).mono HW.out.be.size))).1).mono ?_
        rintro e w1 ⟨rfl, hb⟩
        have HW1 := Lib.hid ((HW.out.below (bx wr _)).below hb)
        clear hb c0 c1 c2 c3 c4 c5 c6 c7 c8 c9 c10 c11
        go_wp2_with fail
        refine (HW1.out.line2 (by have := HLK.out; omega) ⟨#[82]⟩ ES (by decide) HQ4.out).mono ?_
        rintro e w2 ⟨rfl, hb, ho⟩
        have HW2 := Lib.hid hb
        rw [← HNX.out] at HW2
        clear hb ho
        go_wp2_with fail
        go_roundw
        case rel => exact ⟨k + 1, by omega, by go_num, HW2⟩
        case measure => simp [intOf]; omega
      · obtain rfl : k = b.rs.length := by omega
        have ht3 := cell_c HW.out.t 3
        simp at ht3
        go_wp2_with fail
        refine (HSM.out wr (HR.out.below HW.out.be)).mono ?_
        rintro e w1 ⟨rfl, hb⟩
        have HW1 := Lib.hid (HW.out.below hb)
        have HT0 : Hid (EnT b A cp B w1.heap.size b.rs.length (debS b.rs b.rs.length) (creS b.rs b.rs.length) (C7.totB (cardsOf b.rs)) (bodyK b b.rs.length) w (w1.alloc (.cells #[.int .i64 b.rs.length, .int .i64 (debS b.rs b.rs.length), .int .i64 (creS b.rs b.rs.length), .int .i64 (C7.totB (cardsOf b.rs))] 46))) := Lib.hid ⟨HW1.out.below (bx _ _), heap_alloc_new _ _⟩
        have HNE := Lib.hid (show w1.heap.size ≠ B by have := HW1.out.le; omega)
        clear hb ht3
        have HBD : Hid (bodyL b = bodyK b b.rs.length ++ lineL [⟨#[84]⟩, itoS b.rs.length, itoS (debS b.rs b.rs.length), itoS (creS b.rs b.rs.length), itoS (C7.totB (cardsOf b.rs))]) := Lib.hid rfl
        have HTX : Hid (textL b = bodyL b ++ lineL [⟨#[67]⟩, crcS (bodyL b)]) := Lib.hid rfl
        have HZ0 := Lib.hid (show (-9223372036854775808 : Int) ≤ b.rs.length ∧ (b.rs.length : Int) ≤ 9223372036854775807 by omega)
        generalize hdb : debS b.rs b.rs.length = DB at *
        generalize hcb : creS b.rs b.rs.length = CR at *
        generalize htb : C7.totB (cardsOf b.rs) = TT at *
        generalize hcr : crcS (bodyL b) = CRC at *
        have HCRC := Lib.hid hcr
        clear hdb hcb htb hcr
        have HZ1 := Lib.hid (show (-9223372036854775808 : Int) ≤ DB ∧ DB ≤ 9223372036854775807 by have := HDC.out; omega)
        have HZ2 := Lib.hid (show (-9223372036854775808 : Int) ≤ CR ∧ CR ≤ 9223372036854775807 by have := HDC.out; omega)
        have HZ3 := Lib.hid (show (-9223372036854775808 : Int) ≤ TT ∧ (TT : Int) ≤ 9223372036854775807 by have := HTB.out; omega)
        have HLB : Hid ((bodyL b).length ≤ 2000000000) := Lib.hid (by
          rw [HBD.out, List.length_append]
          have h1 := lineL_len [⟨#[84]⟩, itoS b.rs.length, itoS DB, itoS CR, itoS TT] 1000000 (hsz5 (by decide) (Nat.le_trans (itoS_size _ HZ0.out) (by omega)) (Nat.le_trans (itoS_size _ HZ1.out) (by omega)) (Nat.le_trans (itoS_size _ HZ2.out) (by omega)) (Nat.le_trans (itoS_size _ HZ3.out) (by omega)))
          have h2 := HLK.out
          have e : ([⟨#[84]⟩, itoS b.rs.length, itoS DB, itoS CR, itoS TT] : List ByteArray).length = 5 := rfl
          rw [e] at h1
          omega)
        have HC8 : Hid (CRC.size ≤ 1000000) := Lib.hid (by
          rw [← HCRC.out]
          show (text8 _).toArray.size ≤ 1000000
          rw [List.size_toArray, text8_len]; omega)
        go_wp2_with fail
        obtain ⟨W, hW⟩ : ∃ W, w1.alloc (.cells #[.int .i64 b.rs.length, .int .i64 DB, .int .i64 CR, .int .i64 TT] 46) = W := ⟨_, rfl⟩
        rw [hW] at HT0 ⊢
        clear hW HW1
        generalize w1.heap.size = TB at *
        have HBW : Hid (EnT b A cp B TB b.rs.length DB CR TT (bodyK b b.rs.length) w W.drew) := Lib.hid (HT0.out.below ((Below.refl _ _).drew))
        go_region_held3 (fun X => X.cell? ⟨TB, 0, none⟩ = some (.int .i64 b.rs.length) ∧ X.cell? ⟨TB, 1, none⟩ = some (.int .i64 DB) ∧ X.cell? ⟨TB, 2, none⟩ = some (.int .i64 CR) ∧ X.cell? ⟨TB, 3, none⟩ = some (.int .i64 TT))
          (first | exact HBW.out.row | exact (HBW.out.below (bx _ _)).row)
          (first
            | (go_at_call 78; refine (itoa_any b.rs.length _ (HKW.out.below HBW.out.s.be).1.1 HZ0.out.1 HZ0.out.2).mono ?_; rintro e w' ⟨rfl, hb⟩; have HBW := Lib.hid (HBW.out.below hb); clear hb)
            | (go_at_call 95; refine (bdec_any DB _ (HKW.out.below HBW.out.s.be).1.1 HZ1.out.1 HZ1.out.2).mono ?_; rintro e w' ⟨rfl, hb⟩; have HBW := Lib.hid (HBW.out.below hb); clear hb)
            | (go_at_call 95; refine (bdec_any CR _ (HKW.out.below HBW.out.s.be).1.1 HZ2.out.1 HZ2.out.2).mono ?_; rintro e w' ⟨rfl, hb⟩; have HBW := Lib.hid (HBW.out.below hb); clear hb)
            | (go_at_call 95; refine (bdec_any TT _ (HKW.out.below HBW.out.s.be).1.1 HZ3.out.1 HZ3.out.2).mono ?_; rintro e w' ⟨rfl, hb⟩; have HBW := Lib.hid (HBW.out.below hb); clear hb)
            | (go_at_call 94; refine (HBW.out.s.line5 (by have := HLK.out; omega) ⟨#[84]⟩ (itoS b.rs.length) (itoS DB) (itoS CR) (itoS TT) (by decide) (Nat.le_trans (itoS_size _ HZ0.out) (by omega)) (Nat.le_trans (itoS_size _ HZ1.out) (by omega)) (Nat.le_trans (itoS_size _ HZ2.out) (by omega)) (Nat.le_trans (itoS_size _ HZ3.out) (by omega))).mono ?_; rintro e w' ⟨rfl, hb, ho⟩; have HBW := Lib.hid (HBW.out.wr hb ho HNE.out); clear hb ho))
        have HB2 := Lib.hid HBW.out.s
        rw [← HBD.out] at HB2
        clear HBW HT0
        go_wp2_with fail
        refine (Tryz.Builder_String_any_k B B (bodyL b) _ HB2.out.bl (Nat.le_of_lt HB2.out.le)).mono ?_
        rintro e w3 ⟨rfl, hb⟩
        have HB3 := Lib.hid (HB2.out.wr hb)
        clear hb
        have HCC := Lib.hid (crcd_any ⟨(bodyL b).toArray⟩ w3 (HKW.out.below HB3.out.be).2 (by have := HLB.out; show (bodyL b).toArray.size ≤ maxLen; rw [List.size_toArray]; unfold maxLen; omega))
        unfold StrPost at HCC
        rw [show (⟨(bodyL b).toArray⟩ : ByteArray).data.toList = bodyL b from rfl, HCRC.out] at HCC
        go_wp2_with fail
        refine HCC.out.mono ?_
        rintro e w4 ⟨rfl, hb⟩
        have HB4 := Lib.hid (HB3.out.below hb)
        clear hb
        go_wp2_with fail
        refine (HB4.out.line2 (by have := HLB.out; omega) ⟨#[67]⟩ CRC (by decide) HC8.out).mono ?_
        rintro e w5 ⟨rfl, hb, ho⟩
        have HB5 := Lib.hid hb
        rw [← HTX.out] at HB5
        clear hb ho
        go_wp2_with fail
        refine (Tryz.Builder_String_any_k B B (textL b) _ HB5.out.bl (Nat.le_of_lt HB5.out.le)).mono ?_
        rintro e w6 ⟨rfl, hb⟩
        have HB6 := Lib.hid (HB5.out.wr hb)
        clear hb
        go_wp2_with fail
        go_ret2
        exact ⟨by rw [HEN.out]; rfl, HB6.out.be⟩
  · have HE := Lib.hid (show encB b = ⟨#[]⟩ by unfold encB; rw [if_neg hE])
    rw [HE.out]
    generalize chkB b = E at *
    have heb : (E != 0) = true := by simpa using hE
    clear hE hok hsz hi hs hw hr
    go_enter Tryz.func43, Tryz.ntmps43
    go_wp2_with fail
    refine (HCK.out _ (HR.out.below (bx _ _))).mono ?_
    rintro e w1 ⟨rfl, hb⟩
    have HB := Lib.hid (box1 hb).2.2
    clear hb
    go_wp2_with fail
    go_ret2
    exact ⟨rfl, HB.out⟩
end Go.Proofs.YthflmdgfenojcaaGreatDoor
namespace Go.Proofs.YthflmdgfenojcaaGreatDoor
set_option linter.unusedVariables false
open Go.RowKit Go.Sort
/-- A record whose texts lie in memory that there is. -/
def Rec.Rch (r : Rec) : Prop := r.id.size ≤ 140737488351232 ∧ r.au.size ≤ 140737488351232 ∧ r.aq.size ≤ 140737488351232 ∧ r.iss.size ≤ 140737488351232 ∧ r.me.size ≤ 140737488351232 ∧ r.ca.size ≤ 140737488351232 ∧ r.cu.size ≤ 140737488351232
theorem Rec.Rch.fit {r : Rec} (h : r.Rch) : r.Fit := by
  obtain ⟨h1, h2, h3, h4, h5, h6, h7⟩ := h
  have : ∀ n, n ≤ 140737488351232 → n ≤ maxLen := fun n q => by unfold maxLen; omega
  exact ⟨this _ h1, this _ h2, this _ h3, this _ h4, this _ h5, this _ h6, this _ h7⟩
set_option maxRecDepth 100000 in
set_option maxHeartbeats 3200000 in
theorem sh33_any (r : Rec) (hr : r.Rch) (w : World) : Calls Tryz.prog 107 #[r.val] w (BPost (sh33 r) w) := by
  have HS : Hid (sh33 r = decide (((((((r.id.size + r.au.size : Nat) + r.aq.size : Nat) + r.iss.size : Nat) + r.me.size : Nat) + r.ca.size : Nat) + r.cu.size : Nat) ≤ 500)) := Lib.hid rfl
  unfold BPost
  generalize sh33 r = S at *
  obtain ⟨K, id, au, aq, iss, me, ca, x, cu, d, c, f⟩ := r
  obtain ⟨h1, h2, h3, h4, h5, h6, h7⟩ := hr
  have HB := Lib.hid (bx w (.cells #[.int .i64 K, .string id, .string au, .string aq, .string iss, .string me, .string ca, .int .i64 x, .string cu, .int .i64 d, .int .i64 c, .bool f] 57))
  unfold Rec.val Rec.cells
  dsimp only at *
  by_cases hq : id.size + au.size + aq.size + iss.size + me.size + ca.size + cu.size ≤ 500
  · have HS2 := Lib.hid (show S = true by rw [HS.out]; exact decide_eq_true hq)
    have hd : decide ((id.size : Int) + (au.size : Int) + (aq.size : Int) + (iss.size : Int) + (me.size : Int) + (ca.size : Int) + (cu.size : Int) ≤ 500) = true := decide_eq_true (by omega)
    clear hq
    go_enter Tryz.func107, Tryz.ntmps107
    go_wp2_with fail
    go_ret
    exact ⟨by rw [HS2.out]; rfl, HB.out⟩
  · have HS2 := Lib.hid (show S = false by rw [HS.out]; exact decide_eq_false hq)
    have hd : decide ((id.size : Int) + (au.size : Int) + (aq.size : Int) + (iss.size : Int) + (me.size : Int) + (ca.size : Int) + (cu.size : Int) ≤ 500) = false := decide_eq_false (by omega)
    clear hq
    go_enter Tryz.func107, Tryz.ntmps107
    go_wp2_with fail
    go_ret
    exact ⟨by rw [HS2.out]; rfl, HB.out⟩
theorem few_no (l : List Rec) (k : Nat) (hk : k < l.length) (h : ¬ k < 240 ∨ sh33 (rcAt l k) = false) : fewB l = false := by
  unfold fewB
  rw [Bool.and_eq_false_iff]
  rcases h with h | h
  · exact .inl (decide_eq_false (by omega))
  · refine .inr (List.all_eq_false.2 ⟨rcAt l k, ?_, by rw [h]; decide⟩)
    rw [rcAt_get l k hk]; exact List.getElem_mem hk
theorem few_yes (l : List Rec) (h : ∀ j, j < l.length → j < 240 ∧ sh33 (rcAt l j) = true) : fewB l = true := by
  unfold fewB
  rw [Bool.and_eq_true, decide_eq_true_eq, List.all_eq_true]
  constructor
  · rcases Nat.eq_zero_or_pos l.length with q | q
    · omega
    · have := (h (l.length - 1) (by omega)).1; omega
  · intro x hx
    obtain ⟨j, hj, rfl⟩ := List.getElem_of_mem hx
    have := (h j hj).2
    rwa [rcAt_get l j hj] at this
set_option maxRecDepth 100000 in
set_option maxHeartbeats 6400000 in
theorem few_any (A : Option Addr) (cp : Nat) (l : List Rec) (w : World) (hr : IsRow w A (l.flatMap recF)) (hok : ∀ x ∈ l, x.Rch) (hm : l.length ≤ maxLen) : Calls Tryz.prog 51 #[.slice A l.length cp] w (BPost (fewB l) w) := by
  have HR := Lib.hid hr
  have HOK := Lib.hid hok
  have HNO := Lib.hid (few_no l)
  have HYE := Lib.hid (few_yes l)
  unfold BPost
  unfold maxLen at hm
  clear hr hok
  generalize fewB l = F at *
  go_enter Tryz.func51, Tryz.ntmps51
  go_wp2_with fail
  go_loopw [3] (fun i wr => ∃ k : Nat, k ≤ l.length ∧ i = .int .i64 k ∧ Hid (Below w.heap.size w wr ∧ ∀ j, j < k → j < 240 ∧ sh33 (rcAt l j) = true)) (fun i _ => l.length - (intOf i).toNat)
  case atStart => exact ⟨0, Nat.zero_le _, rfl, Lib.hid ⟨Below.refl _ _, fun j hj => absurd hj (Nat.not_lt_zero _)⟩⟩
  case round =>
    obtain ⟨k, hk, rfl, HW⟩ := hrel
    by_cases hlt : k < l.length
    · have kI : (k : Int) < (l.length : Int) := by omega
      have k0 : (0 : Int) ≤ (k : Int) := by omega
      by_cases h240 : k < 240
      case neg =>
        have h2 : (240 : Int) ≤ (k : Int) := by omega
        have hF := Lib.hid (HNO.out k hlt (.inl h240))
        clear h240
        go_wp2_with fail
        go_ret
        exact ⟨by rw [hF.out]; rfl, HW.out.1⟩
      case pos =>
      have h2 : ¬ (240 : Int) ≤ (k : Int) := by omega
      rcases row_rc HR.out k hlt with ⟨b, off, rfl, hcell⟩
      have HC := Lib.hid ((hcell k hlt).later HW.out.1)
      have hfit : (rcAt l k).Rch := by rw [rcAt_get l k hlt]; exact HOK.out _ (List.getElem_mem hlt)
      have HSH := Lib.hid (fun W => sh33_any (rcAt l k) hfit W)
      have HN2 := Lib.hid (fun h => HNO.out k hlt (.inr h))
      have HNX : Hid (sh33 (rcAt l k) = true → ∀ j, j < k + 1 → j < 240 ∧ sh33 (rcAt l j) = true) := Lib.hid (fun h j hj => by
        rcases Nat.lt_or_ge j k with c | c
        · exact HW.out.2 j c
        · obtain rfl : j = k := by omega
          exact ⟨h240, h⟩)
      unfold BPost at HSH
      clear hcell hfit h240
      generalize sh33 (rcAt l k) = S at *
      generalize rcAt l k = r at *
      obtain ⟨K, id, au, aq, is, me, ca, a, cu, d, c, f⟩ := r
      have c0 := HC.out.c0
      have c1 := HC.out.c1
      have c2 := HC.out.c2
      have c3 := HC.out.c3
      have c4 := HC.out.c4
      have c5 := HC.out.c5
      have c6 := HC.out.c6
      have c7 := HC.out.c7
      have c8 := HC.out.c8
      have c9 := HC.out.c9
      have c10 := HC.out.c10
      have c11 := HC.out.c11
      unfold Rec.val Rec.cells at HSH
      dsimp only at c0 c1 c2 c3 c4 c5 c6 c7 c8 c9 c10 c11 HSH
      cases S with
      | false =>
        have hF := Lib.hid (HN2.out rfl)
        go_wp2_with fail
        refine (HSH.out _).mono ?_
        rintro e w1 ⟨rfl, hb⟩
        have HB := Lib.hid (HW.out.1.trans (hb.mono HW.out.1.size))
        clear hb
        go_wp2_with fail
        go_ret
        exact ⟨by rw [hF.out]; rfl, HB.out⟩
      | true =>
        go_wp2_with fail
        refine (HSH.out _).mono ?_
        rintro e w1 ⟨rfl, hb⟩
        have HB := Lib.hid (HW.out.1.trans (hb.mono HW.out.1.size))
        have HX := Lib.hid (HNX.out (by trivial))
        clear hb
        go_wp2_with fail
        go_roundw
        case rel => exact ⟨k + 1, by omega, by go_num, Lib.hid ⟨HB.out, HX.out⟩⟩
        case measure => simp [intOf]; omega
    · obtain rfl : k = l.length := by omega
      have kI : ¬ (l.length : Int) < (l.length : Int) := by omega
      have hF := Lib.hid (HYE.out HW.out.2)
      go_wp2_with fail
      go_ret
      exact ⟨by rw [hF.out]; rfl, HW.out.1⟩
structure BatRch (b : Bat) : Prop where
  i : b.id.size ≤ maxLen
  s : b.sd.size ≤ maxLen
  r : ∀ x ∈ b.rs, x.Rch
theorem BatRch.ok {b : Bat} (h : BatRch b) : BatOk b := ⟨h.i, h.s, fun x hx => (h.r x hx).fit⟩
set_option maxRecDepth 100000 in
set_option maxHeartbeats 3200000 in
theorem bo_any (A : Option Addr) (cp : Nat) (b : Bat) (w : World) (hr : IsRow w A (b.rs.flatMap recF)) (hok : BatRch b) (hm : b.rs.length ≤ maxLen) : Calls Tryz.prog 41 #[batV b A cp] w (BPost (boB b) w) := by
  have HF := Lib.hid (fun W h => few_any A cp b.rs W h hok.r hm)
  have HR := Lib.hid hr
  have HB : Hid (boB b = (decide (b.id.size ≤ 500) && (decide (b.sd.size ≤ 500) && fewB b.rs))) := Lib.hid rfl
  unfold BPost at HF
  unfold BPost batV
  generalize boB b = B at *
  generalize fewB b.rs = F at *
  obtain ⟨id, sd, dt, rs⟩ := b
  have i1 := hok.i
  have i2 := hok.s
  dsimp only at *
  unfold maxLen at i1 i2 hm
  clear hr hok
  have HX := Lib.hid (bx w (.cells #[.string id, .string sd, .int .i64 dt, .slice A rs.length cp] 61))
  by_cases h1 : id.size ≤ 500
  case neg =>
    have hB := Lib.hid (show B = false by rw [HB.out, decide_eq_false h1]; rfl)
    have h1I : ¬ (id.size : Int) ≤ 500 := by omega
    clear h1 HB
    go_enter Tryz.func41, Tryz.ntmps41
    go_wp2_with fail
    go_ret
    exact ⟨by rw [hB.out]; rfl, HX.out⟩
  case pos =>
  have h1I : (id.size : Int) ≤ 500 := by omega
  by_cases h2 : sd.size ≤ 500
  case neg =>
    have hB := Lib.hid (show B = false by rw [HB.out, decide_eq_false h2]; simp)
    have h2I : ¬ (sd.size : Int) ≤ 500 := by omega
    clear h1 h2 HB
    go_enter Tryz.func41, Tryz.ntmps41
    go_wp2_with fail
    go_ret
    exact ⟨by rw [hB.out]; rfl, HX.out⟩
  case pos =>
  have h2I : (sd.size : Int) ≤ 500 := by omega
  have hB := Lib.hid (show B = F by rw [HB.out, decide_eq_true h1, decide_eq_true h2]; simp)
  clear h1 h2 HB
  go_enter Tryz.func41, Tryz.ntmps41
  go_wp2_with fail
  refine (HF.out _ (HR.out.below HX.out)).mono ?_
  rintro e w1 ⟨rfl, hb⟩
  have HB := Lib.hid (HX.out.trans (hb.mono HX.out.size))
  clear hb
  go_wp2_with fail
  go_ret
  exact ⟨by rw [hB.out]; rfl, HB.out⟩
set_option maxRecDepth 100000 in
set_option maxHeartbeats 6400000 in
theorem same_any (A B : Option Addr) (cp cq : Nat) (b : Bat) (w : World) (hA : IsRow w A (b.rs.flatMap recF)) (hB : IsRow w B (b.rs.flatMap recF)) (hm : b.rs.length ≤ maxLen) : Calls Tryz.prog 50 #[batV b A cp, batV b B cq] w (BPost true w) := by
  have HA := Lib.hid hA
  have HB := Lib.hid hB
  unfold BPost batV
  obtain ⟨id, sd, dt, rs⟩ := b
  dsimp only at *
  unfold maxLen at hm
  clear hA hB
  have q1 := (str_eq (rfl : id = id)).1
  have q2 := (str_eq (rfl : sd = sd)).1
  go_enter Tryz.func50, Tryz.ntmps50
  go_wp2_with fail
  have HW0 := Lib.hid ((bx w (.cells #[.string id, .string sd, .int .i64 dt, .slice A rs.length cp] 61)).trans ((bx (w.alloc (.cells #[.string id, .string sd, .int .i64 dt, .slice A rs.length cp] 61)) (.cells #[.string id, .string sd, .int .i64 dt, .slice B rs.length cq] 61)).mono (bx w _).size))
  have HK0 := Lib.hid (blk_later (heap_alloc_new w (.cells #[.string id, .string sd, .int .i64 dt, .slice A rs.length cp] 61)) (bx (w.alloc (.cells #[.string id, .string sd, .int .i64 dt, .slice A rs.length cp] 61)) (.cells #[.string id, .string sd, .int .i64 dt, .slice B rs.length cq] 61)))
  have HK1 := Lib.hid (heap_alloc2_new w (.cells #[.string id, .string sd, .int .i64 dt, .slice A rs.length cp] 61) (.cells #[.string id, .string sd, .int .i64 dt, .slice B rs.length cq] 61))
  go_loopw [5] (fun i wr => ∃ k : Nat, k ≤ rs.length ∧ i = .int .i64 k ∧ Hid (Below w.heap.size w wr ∧ wr.heap[w.heap.size]? = some (.cells #[.string id, .string sd, .int .i64 dt, .slice A rs.length cp] 61) ∧ wr.heap[w.heap.size + 1]? = some (.cells #[.string id, .string sd, .int .i64 dt, .slice B rs.length cq] 61))) (fun i _ => rs.length - (intOf i).toNat)
  case atStart => exact ⟨0, Nat.zero_le _, rfl, Lib.hid ⟨HW0.out, HK0.out, HK1.out⟩⟩
  case round =>
    clear HW0 HK0 HK1 q1 q2
    obtain ⟨k, hk, rfl, HW⟩ := hrel
    have a3 : wr.cell? ⟨w.heap.size, 3, none⟩ = some (.slice A rs.length cp) := cell_c HW.out.2.1 3
    have b3 : wr.cell? ⟨w.heap.size + 1, 3, none⟩ = some (.slice B rs.length cq) := cell_c HW.out.2.2 3
    by_cases hlt : k < rs.length
    · have kI : (k : Int) < (rs.length : Int) := by omega
      have k0 : (0 : Int) ≤ (k : Int) := by omega
      rcases row_rc HA.out k hlt with ⟨b, off, rfl, hcell⟩
      rcases row_rc HB.out k hlt with ⟨b', off', rfl, hcell'⟩
      have HC := Lib.hid ((hcell k hlt).later HW.out.1)
      have HD := Lib.hid ((hcell' k hlt).later HW.out.1)
      have hne := fun W => neq_same (rcAt rs k) W
      clear hcell hcell'
      generalize rcAt rs k = r at *
      obtain ⟨K, id, au, aq, is, me, ca, a, cu, d, c, f⟩ := r
      have c0 := HC.out.c0
      have c1 := HC.out.c1
      have c2 := HC.out.c2
      have c3 := HC.out.c3
      have c4 := HC.out.c4
      have c5 := HC.out.c5
      have c6 := HC.out.c6
      have c7 := HC.out.c7
      have c8 := HC.out.c8
      have c9 := HC.out.c9
      have c10 := HC.out.c10
      have c11 := HC.out.c11
      have d0 := HD.out.c0
      have d1 := HD.out.c1
      have d2 := HD.out.c2
      have d3 := HD.out.c3
      have d4 := HD.out.c4
      have d5 := HD.out.c5
      have d6 := HD.out.c6
      have d7 := HD.out.c7
      have d8 := HD.out.c8
      have d9 := HD.out.c9
      have d10 := HD.out.c10
      have d11 := HD.out.c11
      unfold Rec.val Rec.cells at hne
      dsimp only at c0 c1 c2 c3 c4 c5 c6 c7 c8 c9 c10 c11 d0 d1 d2 d3 d4 d5 d6 d7 d8 d9 d10 d11 hne
      go_wp2_with fail
      go_quiet (fail)
      rename Nat => nq
      have HX := Lib.hid (dNb HW.out.1 nq)
      have HX2 : Hid ((wr.drewN nq).heap[w.heap.size]? = some (.cells #[.string _, .string sd, .int .i64 dt, .slice (some ⟨b, off, none⟩) rs.length cp] 61)) := Lib.hid HW.out.2.1
      have HX3 : Hid ((wr.drewN nq).heap[w.heap.size + 1]? = some (.cells #[.string _, .string sd, .int .i64 dt, .slice (some ⟨b', off', none⟩) rs.length cq] 61)) := Lib.hid HW.out.2.2
      go_wp2_with fail
      go_roundw
      case rel => exact ⟨k + 1, by omega, by go_num, Lib.hid ⟨HX.out, HX2.out, HX3.out⟩⟩
      case measure => simp [intOf]; omega
    · obtain rfl : k = rs.length := by omega
      have kI : ¬ (rs.length : Int) < (rs.length : Int) := by omega
      go_wp2_with fail
      go_ret
      exact ⟨rfl, HW.out.1⟩
end Go.Proofs.YthflmdgfenojcaaGreatDoor
namespace Go.Proofs.YthflmdgfenojcaaGreatDoor
set_option linter.unusedVariables false
open Go.RowKit Go.Sort Go.Maps
theorem ito0 : itoS 0 = ⟨#[48]⟩ := by simp [itoS, Lib.itoa, Lib.decDigits]
theorem ito20 : itoS 20 = ⟨#[50, 48]⟩ := by simp [itoS, Lib.itoa, Lib.decDigits]
theorem body_b0 : bodyL b0 = [72, 124, 70, 50, 48, 45, 49, 124, 115, 104, 111, 112, 124, 50, 48, 10, 84, 124, 48, 124, 48, 124, 48, 124, 48, 10] := by
  have e1 : (C7.totB (cardsOf b0.rs) : Int) = 0 := rfl
  have e2 : debS b0.rs b0.rs.length = 0 := rfl
  have e3 : creS b0.rs b0.rs.length = 0 := rfl
  have e4 : (b0.rs.length : Int) = 0 := rfl
  have e5 : b0.dt = 20 := rfl
  unfold bodyL bodyK hdrL trlL
  rw [e1, e2, e3, e4, e5, ito0, ito20]
  rfl
theorem chk_b0 : chkB b0 = 0 := by kernel_rfl
theorem enc_b0 : (encB b0).data.toList = [72, 124, 70, 50, 48, 45, 49, 124, 115, 104, 111, 112, 124, 50, 48, 10, 84, 124, 48, 124, 48, 124, 48, 124, 48, 10, 67, 124] ++ (text8 (C7.crcOf (bodyL b0)) ++ [10]) := by
  rw [enc_data chk_b0, textL, chkL_form]
  conv => lhs; arg 1; rw [body_b0]
  rfl
theorem enc_b0_size : (encB b0).size = 37 := by
  have h := congrArg List.length enc_b0
  rw [List.length_append, List.length_append, text8_len] at h
  exact h
theorem enc_b0_pref : Lib.hasPrefix (encB b0).data.toList [72, 124, 70, 50, 48, 45, 49, 124, 115, 104, 111, 112, 124, 50, 48, 10, 84, 124, 48, 124, 48, 124, 48, 124, 48, 10, 67, 124] = true := by
  unfold Lib.hasPrefix
  rw [List.isPrefixOf_iff_prefix, enc_b0]
  exact ⟨_, rfl⟩
def DceP (b : Bat) (w : World) (e : Ending) (w' : World) : Prop :=
  ∃ A c A' c', e = .returned (.tuple #[.agg #[.string b.id, .string b.sd, .int .i64 b.dt, .slice A b.rs.length c], .slice A' 0 c', .int .i64 0]) ∧ IsRow w' A (b.rs.flatMap recF) ∧ b.rs.length ≤ c ∧ Below w.heap.size w w'
/-- What was written is read. -/
theorem dce_any (b : Bat) (w : World) (hw : BW w) (h : chkB b = 0) (hs : (encB b).size ≤ 1000000) : Calls Tryz.prog 49 #[.string (encB b)] w (DceP b w) := by
  obtain ⟨h1, h2, h3⟩ := dec_of_enc h
  refine (bdc_any (encB b) w hw hs).mono ?_
  rintro e w' ⟨v8, v9, rfl, o8, o9, hb⟩
  rw [h2] at o8
  rw [h3] at o9
  obtain ⟨A, c, rfl, hr, hc⟩ := own_form o8
  obtain ⟨A', c', rfl, hr', hc'⟩ := own_form o9
  exact ⟨A, c, A', c', by rw [h1, h2]; rfl, hr, hc, hb⟩
set_option maxRecDepth 100000 in
set_option maxHeartbeats 12800000 in
theorem awb_any (w : World) (hw : BW w) : Calls Tryz.prog 42 #[] w fun e w' => e = .returned (.bool true) ∧ Below w.heap.size w w' := by
  have HKW := Lib.hid hw
  have HEN : Hid (∀ W, BW W → Calls Tryz.prog 43 #[batV b0 none 0] W (BenPost b0 W)) := Lib.hid (fun W hW => benc_any none 0 b0 W hW (.inl rfl) ⟨by decide, by decide, fun x hx => by cases hx⟩ (fun x hx => by cases hx) (by decide) (by decide) (by decide) (by decide))
  have HDC := Lib.hid (fun W hW => dce_any b0 W hW chk_b0 (by rw [enc_b0_size]; omega))
  have HSA := Lib.hid (fun A c W h => same_any none A 0 c b0 W (.inl rfl) h (by decide))
  have HPF := Lib.hid (fun W => Tryz.strings_HasPrefix (encB b0) ⟨#[72, 124, 70, 50, 48, 45, 49, 124, 115, 104, 111, 112, 124, 50, 48, 10, 84, 124, 48, 124, 48, 124, 48, 124, 48, 10, 67, 124]⟩ W)
  rw [show (⟨#[72, 124, 70, 50, 48, 45, 49, 124, 115, 104, 111, 112, 124, 50, 48, 10, 84, 124, 48, 124, 48, 124, 48, 124, 48, 10, 67, 124]⟩ : ByteArray).data.toList = [72, 124, 70, 50, 48, 45, 49, 124, 115, 104, 111, 112, 124, 50, 48, 10, 84, 124, 48, 124, 48, 124, 48, 124, 48, 10, 67, 124] from rfl, enc_b0_pref] at HPF
  have hsz := enc_b0_size
  unfold BenPost batV at HEN
  rw [chk_b0] at HEN
  unfold DceP at HDC
  unfold BPost batV at HSA
  generalize encB b0 = S at *
  unfold b0 at HEN HDC HSA
  dsimp only [List.length_nil] at HEN HDC HSA
  clear hw
  have HK0 := Lib.hid (heap_alloc_new w (.cells #[.string ⟨#[70, 50, 48, 45, 49]⟩, .string ⟨#[115, 104, 111, 112]⟩, .int .i64 20, .slice none 0 0] 61))
  go_enter Tryz.func42, Tryz.ntmps42
  go_wp2_with fail
  refine (HEN.out _ (HKW.out.below (bx _ _))).mono ?_
  rintro e w1 ⟨rfl, hb⟩
  have HB := Lib.hid ((bx w (.cells #[.string ⟨#[70, 50, 48, 45, 49]⟩, .string ⟨#[115, 104, 111, 112]⟩, .int .i64 20, .slice none 0 0] 61)).trans (hb.mono (bx w _).size))
  have HK := Lib.hid (blk_later HK0.out hb)
  clear hb HK0
  go_wp2_with fail
  refine (HDC.out _ (HKW.out.below HB.out)).mono ?_
  rintro e w2 ⟨A, c, A', c', rfl, hr, hc, hb⟩
  have HB := Lib.hid (HB.out.trans (hb.mono HB.out.size))
  have HK := Lib.hid (blk_later HK.out hb)
  have HR := Lib.hid hr
  clear hb hr hc
  have HX := Lib.hid (bx w2 (.cells #[.string ⟨#[70, 50, 48, 45, 49]⟩, .string ⟨#[115, 104, 111, 112]⟩, .int .i64 20, .slice A 0 c] 61))
  have HB2 := Lib.hid (HB.out.trans (HX.out.mono HB.out.size))
  have k0 := cell_c (blk_later HK.out HX.out) 0
  have k1 := cell_c (blk_later HK.out HX.out) 1
  have k2 := cell_c (blk_later HK.out HX.out) 2
  have k3 := cell_c (blk_later HK.out HX.out) 3
  simp at k0 k1 k2 k3
  go_wp2_with fail
  refine (HPF.out _).mono ?_
  rintro e w3 ⟨rfl, rfl⟩
  go_wp2_with fail
  refine (HSA.out A c _ (HR.out.below HX.out)).mono ?_
  rintro e w4 ⟨rfl, hb⟩
  have HB3 := Lib.hid (HB2.out.trans (hb.mono HB2.out.size))
  clear hb
  go_wp2_with fail
  go_ret
  exact ⟨rfl, HB3.out⟩
end Go.Proofs.YthflmdgfenojcaaGreatDoor
namespace Go.Proofs.YthflmdgfenojcaaGreatDoor
set_option linter.unusedVariables false
open Go.RowKit Go.Sort Go.Maps
def BytesAt (w : World) (b : Nat) (l : List UInt8) : Prop := ∀ j, j < l.length → w.cell? ⟨b, j, none⟩ = some (.int .u8 ((l.getD j 0).toNat : Int)) ∧ w.frozen? ⟨b, j, none⟩ = false
theorem BytesAt.set {w : World} {b : Nat} {l : List UInt8} (h : BytesAt w b l) (i : Nat) (hi : i < l.length) (x : UInt8) : BytesAt (w.setCell ⟨b, i, none⟩ (.int .u8 (x.toNat : Int))) b (l.set i x) := by
  intro j hj
  have hj' : j < l.length := by simpa using hj
  obtain ⟨h1, h2⟩ := h j hj'
  refine ⟨?_, by rw [World.frozen?_setCell]; exact h2⟩
  by_cases hij : i = j
  · subst hij
    rw [World.cell?_setCell_same _ _ _ h1]
    simp [List.getD, hi]
  · rw [World.cell?_setCell_other _ _ _ _ (fun e => hij (congrArg Addr.off e)), h1]
    simp [List.getD, hij]
def DbaP (w : World) (e : Ending) (w' : World) : Prop := ∃ A c A' c' E, E ≠ 0 ∧ e = .returned (.tuple #[.agg #[.string ⟨#[]⟩, .string ⟨#[]⟩, .int .i64 0, .slice A 0 c], .slice A' 0 c', .int .i64 E]) ∧ Below w.heap.size w w'
theorem dba_any (s : ByteArray) (w : World) (hw : BW w) (hs : s.size ≤ 1000000) (h : fileE s ≠ 0) : Calls Tryz.prog 49 #[.string s] w (DbaP w) := by
  refine (bdc_any s w hw hs).mono ?_
  rintro e w' ⟨v8, v9, rfl, o8, o9, hb⟩
  have h1 : fileV s = ⟨⟨#[]⟩, ⟨#[]⟩, 0, []⟩ := by unfold fileV; rw [if_neg h]
  have h2 : fileB s = [] := by unfold fileB; rw [if_neg h]
  rw [h1] at o8
  rw [h2] at o9
  obtain ⟨A, c, rfl, hr, hc⟩ := own_form o8
  obtain ⟨A', c', rfl, hr', hc'⟩ := own_form o9
  exact ⟨A, c, A', c', fileE s, h, by rw [h1]; rfl, hb⟩
end Go.Proofs.YthflmdgfenojcaaGreatDoor
namespace Go.Proofs.YthflmdgfenojcaaGreatDoor
set_option linter.unusedVariables false
open Go.RowKit Go.ChangeShapes Go.WideShapes
theorem cells25 : Tryz.prog.cellsOf 57 = 12 := by kernel_rfl
end Go.Proofs.YthflmdgfenojcaaGreatDoor
namespace Go.Proofs.YthflmdgfenojcaaGreatDoor
set_option linter.unusedVariables false
open Go.RowKit
section
variable {w w' : World} {B B' size n : Nat} {A : Option Addr} {xs : List Value}
theorem Reads.more (h : Reads w B size A n xs) (hB : B ≤ B') : Reads w B' size A n xs :=
  ⟨h.1, fun hn => by
    obtain ⟨ad, e, hb, hc⟩ := h.2 hn
    exact ⟨ad, e, by omega, hc⟩⟩
theorem Reads.below (h : Reads w B size A n xs) (hb : Below B w w') : Reads w' B size A n xs := h.keep fun _ hp => hb.cell hp
theorem Reads.drew (h : Reads w B size A n xs) : Reads w.drew B size A n xs := h
theorem Reads.drewN (h : Reads w B size A n xs) (k : Nat) : Reads (w.drewN k) B size A n xs := h
theorem Reads.setCell (h : Reads w B size A n xs) {p : Addr} (hB : B ≤ p.block) (u : Value) : Reads (w.setCell p u) B size A n xs :=
  h.keep fun q hq => World.cell?_setCell_other w p q u (fun e => by subst e; omega)
theorem Reads.grown (h : Reads w B size A n xs) {row : Option Nat} (hg : w.grownBy w' row) (hB : B ≤ w.heap.size) (hr : ∀ g, row = some g → B ≤ g) : Reads w' B size A n xs :=
  h.keep fun p hp => World.cell?_of_block (hg.block p.block (by omega) (fun e => by have := hr _ e.symm; omega))
end
end Go.Proofs.YthflmdgfenojcaaGreatDoor
namespace Go.Proofs.YthflmdgfenojcaaGreatDoor
set_option linter.unusedVariables false
open Go.RowKit Go.ChangeShapes Go.WideShapes Go.Deep Go.Joins
set_option maxRecDepth 100000 in
theorem rec_readW {H : Type} {enc : TypeId × Value → H} {W : World} (cs : List Value) (m : Nat) (y) (hl : cs.length = 12) (h : DataW.trod enc Tryz.prog W 0 (fun _ => true) true m 57 cs = some y) (hw : ∀ k ∈ y.1.weights Tryz.prog 57, k ≤ reachBytes) :
    ∃ r : Rec, cs = r.cells.toList ∧ r.Rch ∧ (Lit.int .i64 r.k).wf = true ∧ (Lit.int .i64 r.a).wf = true ∧ (Lit.int .i64 r.d).wf = true ∧ (Lit.int .i64 r.c).wf = true := by
  match cs, hl with
  | [c0, c1, c2, c3, c4, c5, c6, c7, c8, c9, c10, c11], _ =>
    obtain ⟨xs, n, _, rfl, hxl, hlen, hf⟩ := DataW.trod_struct Tryz.underlying57 h
    match xs, hlen with
    | [y0, y1, y2, y3, y4, y5, y6, y7, y8, y9, y10], _ =>
      have k9 : Tryz.prog.cellsOf 9 = 1 := by kernel_rfl
      have k2 : Tryz.prog.cellsOf 2 = 1 := by kernel_rfl
      have k3 : Tryz.prog.cellsOf 3 = 1 := by kernel_rfl
      have k4 : Tryz.prog.cellsOf 4 = 1 := by kernel_rfl
      have k23 : Tryz.prog.cellsOf 55 = 2 := by kernel_rfl
      obtain ⟨s0, e0, x0, w0⟩ := DataW.trod_int Tryz.underlying3 (show DataW.trod enc Tryz.prog W 0 (fun _ => true) true n 3 [c0] = some y0 by simpa [k3] using hf 0 _ rfl)
      obtain ⟨s1, e1, x1, w1⟩ := DataW.trod_string Tryz.underlying9 (show DataW.trod enc Tryz.prog W 0 (fun _ => true) true n 9 [c1] = some y1 by simpa [k9] using hf 1 _ rfl)
      obtain ⟨s2, e2, x2, w2⟩ := DataW.trod_string Tryz.underlying9 (show DataW.trod enc Tryz.prog W 0 (fun _ => true) true n 9 [c2] = some y2 by simpa [k9] using hf 2 _ rfl)
      obtain ⟨s3, e3, x3, w3⟩ := DataW.trod_string Tryz.underlying9 (show DataW.trod enc Tryz.prog W 0 (fun _ => true) true n 9 [c3] = some y3 by simpa [k9] using hf 3 _ rfl)
      obtain ⟨s4, e4, x4, w4⟩ := DataW.trod_string Tryz.underlying9 (show DataW.trod enc Tryz.prog W 0 (fun _ => true) true n 9 [c4] = some y4 by simpa [k9] using hf 4 _ rfl)
      obtain ⟨s5, e5, x5, w5⟩ := DataW.trod_string Tryz.underlying9 (show DataW.trod enc Tryz.prog W 0 (fun _ => true) true n 9 [c5] = some y5 by simpa [k9] using hf 5 _ rfl)
      obtain ⟨s6, e6, x6, w6⟩ := DataW.trod_string Tryz.underlying9 (show DataW.trod enc Tryz.prog W 0 (fun _ => true) true n 9 [c6] = some y6 by simpa [k9] using hf 6 _ rfl)
      obtain ⟨z0, z1, m', xz, _, g0, g1⟩ := trod_struct2 Tryz.underlying55 (show DataW.trod enc Tryz.prog W 0 (fun _ => true) true n 55 [c7, c8] = some y7 by simpa [k23] using hf 7 _ rfl)
      obtain ⟨s7, e7, x7, w7⟩ := DataW.trod_int Tryz.underlying2 (show DataW.trod enc Tryz.prog W 0 (fun _ => true) true m' 2 [c7] = some z0 by simpa [k2] using g0)
      obtain ⟨s8, e8, x8, w8⟩ := DataW.trod_string Tryz.underlying9 (show DataW.trod enc Tryz.prog W 0 (fun _ => true) true m' 9 [c8] = some z1 by simpa [k9] using g1)
      obtain ⟨s9, e9, x9, w9⟩ := DataW.trod_int Tryz.underlying3 (show DataW.trod enc Tryz.prog W 0 (fun _ => true) true n 3 [c9] = some y8 by simpa [k3] using hf 8 _ rfl)
      obtain ⟨s10, e10, x10, w10⟩ := DataW.trod_int Tryz.underlying3 (show DataW.trod enc Tryz.prog W 0 (fun _ => true) true n 3 [c10] = some y9 by simpa [k3] using hf 9 _ rfl)
      obtain ⟨s11, e11, x11⟩ := DataW.trod_bool Tryz.underlying4 (show DataW.trod enc Tryz.prog W 0 (fun _ => true) true n 4 [c11] = some y10 by simpa [k4] using hf 10 _ rfl)
      injection e0 with e0; injection e1 with e1; injection e2 with e2; injection e3 with e3; injection e4 with e4; injection e5 with e5; injection e6 with e6; injection e7 with e7; injection e8 with e8; injection e9 with e9; injection e10 with e10; injection e11 with e11
      subst e0 e1 e2 e3 e4 e5 e6 e7 e8 e9 e10 e11
      subst x0 x1 x2 x3 x4 x5 x6 xz x7 x8 x9 x10 x11
      have hW := hw
      simp [DataW.weights, Tryz.underlying57, Tryz.underlying55, DataW.weightsEach] at hW
      obtain ⟨g1, g2, g3, g4, g5, g6, g8⟩ := hW
      unfold reachBytes at g1 g2 g3 g4 g5 g6 g8
      exact ⟨⟨s0, s1, s2, s3, s4, s5, s6, s7, s8, s9, s10, s11⟩, rfl, ⟨by omega, by omega, by omega, by omega, by omega, by omega, by omega⟩, w0, w7, w9, w10⟩
theorem recs_open {H : Type} {enc : TypeId × Value → H} {W : World} {a : Option Addr} {len cap : Nat} {d : DataW H} {p : List MemPlace} (h : DataW.Trod enc Tryz.prog W 0 (fun _ => true) true 34 (.slice a len cap) d p) (hw : ∀ k ∈ d.weights Tryz.prog 34, k ≤ reachBytes) :
    ∃ l : List Rec, l.length = len ∧ IsRow W a (l.flatMap recF) ∧ (∀ x ∈ l, x.Rch) ∧ len ≤ cap ∧ (a = none → cap = 0) ∧ cap ≤ maxLen :=
  slice_openW recF (fun x => x.Rch) 12 Tryz.underlying34 cells25 (fun cs m y hl hy hk => by
    obtain ⟨r, h1, h2, _⟩ := rec_readW cs m y hl hy hk
    exact ⟨r, h1, h2⟩) h hw
end Go.Proofs.YthflmdgfenojcaaGreatDoor
namespace Go.Proofs.YthflmdgfenojcaaGreatDoor
set_option linter.unusedVariables false
open Go.RowKit Go.ChangeShapes Go.WideShapes Go.Deep Go.Joins
/-- A file as it is handed in. -/
structure BArg where
  b : Bat
  A : Option Addr
  cp : Nat
def BArg.cells (x : BArg) : List Value := [.string x.b.id, .string x.b.sd, .int .i64 x.b.dt, .slice x.A x.b.rs.length x.cp]
def BArg.val (x : BArg) : Value := batV x.b x.A x.cp
structure BOk (w : World) (x : BArg) : Prop where
  r : IsRow w x.A (x.b.rs.flatMap recF)
  k : BatRch x.b
  c : x.b.rs.length ≤ x.cp
  m : x.cp ≤ maxLen
  d : (Lit.int .i64 x.b.dt).wf = true
theorem cells61 : Tryz.prog.cellsOf 61 = 4 := by kernel_rfl
set_option maxRecDepth 100000 in
theorem bat_read {H : Type} {enc : TypeId × Value → H} {W : World} (cs : List Value) (m : Nat) (y) (hl : cs.length = 4) (h : DataW.trod enc Tryz.prog W 0 (fun _ => true) true m 61 cs = some y) (hw : ∀ k ∈ y.1.weights Tryz.prog 61, k ≤ reachBytes) :
    ∃ x : BArg, cs = x.cells ∧ BOk W x := by
  match cs, hl with
  | [c0, c1, c2, c3], _ =>
    obtain ⟨y0, y1, y2, y3, n, xy, _, h0, h1, h2, h3⟩ := trod_struct4 Tryz.underlying61 h
    have k9 : Tryz.prog.cellsOf 9 = 1 := by kernel_rfl
    have k3 : Tryz.prog.cellsOf 3 = 1 := by kernel_rfl
    have k34 : Tryz.prog.cellsOf 34 = 1 := by kernel_rfl
    obtain ⟨s0, e0, x0, w0⟩ := DataW.trod_string Tryz.underlying9 (show DataW.trod enc Tryz.prog W 0 (fun _ => true) true n 9 [c0] = some y0 by simpa [k9] using h0)
    obtain ⟨s1, e1, x1, w1⟩ := DataW.trod_string Tryz.underlying9 (show DataW.trod enc Tryz.prog W 0 (fun _ => true) true n 9 [c1] = some y1 by simpa [k9] using h1)
    obtain ⟨s2, e2, x2, w2⟩ := DataW.trod_int Tryz.underlying3 (show DataW.trod enc Tryz.prog W 0 (fun _ => true) true n 3 [c2] = some y2 by simpa [k3] using h2)
    have h3' : DataW.trod enc Tryz.prog W 0 (fun _ => true) true n 34 [c3] = some y3 := by simpa [k34] using h3
    have hw3 : ∀ k ∈ y3.1.weights Tryz.prog 34, k ≤ reachBytes := fun k hk => hw k (by
      rw [xy]
      simp only [DataW.weights, Tryz.underlying61]
      exact DataW.weights_mem_each (j := 3) (t := 34) (d := y3.1) rfl rfl k hk)
    injection e0 with e0; injection e1 with e1; injection e2 with e2
    subst e0 e1 e2
    have hsl : ∃ a len cap, c3 = .slice a len cap := by
      rcases open_slice Tryz.underlying34 h3' with ⟨hcs, _⟩ | ⟨a, ln, cp, _, _, _, _, hcs, _⟩
      · injection hcs with hcs; exact ⟨_, _, _, hcs⟩
      · injection hcs with hcs; exact ⟨_, _, _, hcs⟩
    obtain ⟨a, len, cap, rfl⟩ := hsl
    obtain ⟨l, rfl, g1, g2, g3, g4, g5⟩ := recs_open (a := a) (len := len) (cap := cap) (d := y3.1) (p := y3.2) ⟨n, by simpa [Value.cells] using h3'⟩ hw3
    exact ⟨⟨⟨s0, s1, s2, l⟩, a, cap⟩, rfl, ⟨g1, ⟨w0, w1, g2⟩, g3, g5, w2⟩⟩
set_option maxRecDepth 100000 in
theorem bat_open {H : Type} {enc : TypeId × Value → H} {W : World} {r : Reach} {b0 : Nat} {v : Value} {d : DataW H} {p : List MemPlace} (hv : Value.okWide Tryz.prog W r b0 61 v) (h : DataW.Trod enc Tryz.prog W 0 (fun _ => true) true 61 v d p) (hw : ∀ k ∈ d.weights Tryz.prog 61, k ≤ reachBytes) :
    ∃ x : BArg, v = x.val ∧ BOk W x := by
  obtain ⟨cs, rfl, hsz⟩ := okWide_struct Tryz.underlying61 hv
  obtain ⟨fuel, hf⟩ := h
  have hc : cs.toList.length = 4 := by rw [Array.length_toList, hsz]; exact cells61
  obtain ⟨x, hx, hok⟩ := bat_read cs.toList fuel _ hc (by simpa [Value.cells] using hf) hw
  refine ⟨x, ?_, hok⟩
  have : cs = x.cells.toArray := by rw [← hx]
  rw [this]; rfl
end Go.Proofs.YthflmdgfenojcaaGreatDoor
namespace Go.Proofs.YthflmdgfenojcaaGreatDoor
set_option linter.unusedVariables false
open Go.RowKit Go.Sort Go.Maps
theorem decV_szR (x : ByteArray) : szR (decV x) ≤ 7 * x.size := by
  unfold decV
  split
  · have hp := fun j => prt_size x j
    have h1 := hp 1
    have h2 := hp 2
    have h3 := hp 3
    have h4 := hp 4
    have h5 := hp 5
    have h6 := hp 6
    have h8 := hp 8
    show (prt (cutS x) 1).size + (prt (cutS x) 2).size + (prt (cutS x) 3).size + (prt (cutS x) 4).size + (prt (cutS x) 5).size + (prt (cutS x) 6).size + (prt (cutS x) 8).size ≤ 7 * x.size
    omega
  · exact Nat.zero_le _
theorem rd_mem (s : ByteArray) : ∀ k, ∀ r ∈ (rdK s k).rs, szR r ≤ 7 * s.size
  | 0, r, h => by cases h
  | k + 1, r, h => by
    rw [rdK_succ] at h
    by_cases q : ptD (hdP s 2) (rdK s k).rs (rcL s k) = 0
    · rw [rdStep_ok q] at h
      rcases List.mem_append.1 h with h | h
      · exact rd_mem s k r h
      · rw [List.mem_singleton.1 h]
        have h1 := decV_szR (txtOf (rcL s k))
        have h2 : (txtOf (rcL s k)).size ≤ (rcL s k).size := by unfold txtOf; rw [ByteArray.size_extract]; omega
        have h3 : (rcL s k).size ≤ s.size := lnAt_size s (1 + k)
        omega
    · rw [rdStep_no q] at h
      exact rd_mem s k r h
theorem szR_fit {r : Rec} (h : szR r ≤ 1000000) : r.Fit := by
  obtain ⟨K, id, au, aq, iss, me, ca, a, cu, d, c, f⟩ := r
  unfold szR at h
  unfold Rec.Fit
  dsimp only at h ⊢
  have hm : 1000000 ≤ maxLen := by decide
  generalize maxLen = M at *
  generalize id.size = n1 at *
  generalize au.size = n2 at *
  generalize aq.size = n3 at *
  generalize iss.size = n4 at *
  generalize me.size = n5 at *
  generalize ca.size = n6 at *
  generalize cu.size = n7 at *
  exact ⟨by omega, by omega, by omega, by omega, by omega, by omega, by omega⟩
theorem hdP_size (s : ByteArray) (j : Nat) : (hdP s j).size ≤ s.size := by
  unfold hdP
  exact Nat.le_trans (prt_size (lnAt s 0) j) (lnAt_size s 0)
theorem file_sz {s : ByteArray} (h : fileE s = 0) : (fileV s).id.size ≤ s.size ∧ (fileV s).sd.size ≤ s.size ∧ ∀ r ∈ (fileV s).rs, szR r ≤ 7 * s.size := by
  have e := fileV_ok h
  have h1 : (fileV s).id = hdP s 1 := by rw [e]
  have h2 : (fileV s).sd = hdP s 2 := by rw [e]
  have h3 : (fileV s).rs = (rdK s (nRc s)).rs := by rw [e]
  rw [h1, h2, h3]
  exact ⟨hdP_size s 1, hdP_size s 2, rd_mem s _⟩
def DgdP (V : Bat) (n : Nat) (w : World) (e : Ending) (w' : World) : Prop :=
  ∃ A c A' c', e = .returned (.tuple #[.agg #[.string V.id, .string V.sd, .int .i64 V.dt, .slice A V.rs.length c], .slice A' n c', .int .i64 0]) ∧ IsRow w' A (V.rs.flatMap recF) ∧ V.rs.length ≤ c ∧ Below w.heap.size w w'
theorem dgd_any (s : ByteArray) (w : World) (hw : BW w) (hs : s.size ≤ 1000000) (h : fileE s = 0) : Calls Tryz.prog 49 #[.string s] w (DgdP (fileV s) (fileB s).length w) := by
  refine (bdc_any s w hw hs).mono ?_
  rintro e w' ⟨v8, v9, rfl, o8, o9, hb⟩
  obtain ⟨A, c, rfl, hr, hc⟩ := own_form o8
  obtain ⟨A', c', rfl, hr', hc'⟩ := own_form o9
  exact ⟨A, c, A', c', by rw [h]; rfl, hr, hc, hb⟩
set_option maxRecDepth 100000 in
set_option maxHeartbeats 25600000 in
theorem roundB_any (A : Option Addr) (cp : Nat) (b : Bat) (s : ByteArray) (w : World) (hw : BW w) (hr : IsRow w A (b.rs.flatMap recF)) (hok : BatRch b) (hc : b.rs.length ≤ cp) (hm : b.rs.length ≤ maxLen) (hsm : s.size ≤ maxLen) :
    Calls Tryz.prog 7 #[batV b A cp, .string s] w fun e w' => e = .returned (.bool true) ∧ Below w.heap.size w w' := by
  have HKW := Lib.hid hw
  have HR := Lib.hid hr
  have HAW := Lib.hid (fun W hW => awb_any W hW)
  have HBO := Lib.hid (fun W h => bo_any A cp b W h hok hm)
  have HBX := Lib.hid (heap_alloc_new w (.cells #[.string b.id, .string b.sd, .int .i64 b.dt, .slice A b.rs.length cp] 61))
  have HP := Lib.hid (boB_parts (b := b))
  have HEN := Lib.hid (fun hsz hi hs hl W hW h => benc_any A cp b W hW h hok.ok hsz hi hs hc hl)
  have HCK := Lib.hid (fun hl W h => bcheck_any A cp b W h hok.ok hc hl)
  have HSA := Lib.hid (fun B cq W h1 h2 => same_any A B cp cq b W h1 h2 hm)
  have HDT := Lib.hid (fun h hs W hW => dce_any b W hW h hs)
  have HTL := Lib.hid (text_le (b := b))
  have HEB : Hid (chkB b ≠ 0 → encB b = ⟨#[]⟩) := Lib.hid (fun h => by unfold encB; rw [if_neg h])
  have q9 := (str_eq (rfl : s = s)).1
  unfold BPost at HBO HSA
  unfold BenPost at HEN
  unfold PtPost at HCK
  unfold DceP at HDT
  unfold batV at HBO HEN HCK HSA
  unfold batV
  clear hw hr hok
  unfold maxLen at hsm
  generalize boB b = B at *
  generalize chkB b = E at *
  generalize encB b = T at *
  obtain ⟨id, sd, dt, rs⟩ := b
  dsimp only at *
  cases B with
  | false =>
    clear HP HEN HCK HSA HDT HTL HEB
    go_enter Tryz.func7, Tryz.ntmps7
    go_wp2_with fail
    refine (HBO.out _ (HR.out.below (bx _ _))).mono ?_
    rintro e w1 ⟨rfl, hb⟩
    have HB := Lib.hid ((bx w (.cells #[.string id, .string sd, .int .i64 dt, .slice A rs.length cp] 61)).trans (hb.mono (bx w _).size))
    have HK := Lib.hid (blk_later HBX.out hb)
    clear hb
    go_wp2_with fail
    refine (HAW.out _ (HKW.out.below HB.out)).mono ?_
    rintro e wa ⟨rfl, hb⟩
    have HB := Lib.hid (HB.out.trans (hb.mono HB.out.size))
    clear hb
    go_wp2_with fail
    go_ret
    exact ⟨rfl, HB.out⟩
  | true =>
  by_cases h4 : 40000 < s.size
  · have h4I : (40000 : Int) < (s.size : Int) := by omega
    clear HP HEN HCK HSA HDT HTL HEB
    go_enter Tryz.func7, Tryz.ntmps7
    go_wp2_with fail
    refine (HBO.out _ (HR.out.below (bx _ _))).mono ?_
    rintro e w1 ⟨rfl, hb⟩
    have HB := Lib.hid ((bx w (.cells #[.string id, .string sd, .int .i64 dt, .slice A rs.length cp] 61)).trans (hb.mono (bx w _).size))
    have HK := Lib.hid (blk_later HBX.out hb)
    clear hb
    go_wp2_with fail
    refine (HAW.out _ (HKW.out.below HB.out)).mono ?_
    rintro e wa ⟨rfl, hb⟩
    have HB := Lib.hid (HB.out.trans (hb.mono HB.out.size))
    clear hb
    go_wp2_with fail
    go_ret
    exact ⟨rfl, HB.out⟩
  have h4I : ¬ (40000 : Int) < (s.size : Int) := by omega
  obtain ⟨p1, p2, p3, p4⟩ := HP.out (by trivial)
  have HEN := Lib.hid (HEN.out (fun x hx => by have := p4 x hx; omega) (by omega) (by omega) (by omega))
  have HCK := Lib.hid (HCK.out (by omega))
  have hs1 : s.size ≤ 1000000 := by omega
  clear HP p1 p2 p4
  by_cases hf : fileE s = 0
  case neg =>
    have HDS := Lib.hid (fun W hW => dba_any s W hW hs1 hf)
    unfold DbaP at HDS
    clear hf
    by_cases hE : E = 0
    case pos =>
      subst hE
      have HDU := Lib.hid (HDT.out rfl (HTL.out rfl (by trivial)))
      clear HTL HEB HDT
      go_enter Tryz.func7, Tryz.ntmps7
      go_wp2_with fail
      refine (HBO.out _ (HR.out.below (bx _ _))).mono ?_
      rintro e w1 ⟨rfl, hb⟩
      have HB := Lib.hid ((bx w (.cells #[.string id, .string sd, .int .i64 dt, .slice A rs.length cp] 61)).trans (hb.mono (bx w _).size))
      have HK := Lib.hid (blk_later HBX.out hb)
      clear hb
      have k0 := cell_c HK.out 0
      have k1 := cell_c HK.out 1
      have k2 := cell_c HK.out 2
      have k3 := cell_c HK.out 3
      simp at k0 k1 k2 k3
      go_wp2_with fail
      refine (HEN.out _ (HKW.out.below HB.out) (HR.out.below HB.out)).mono ?_
      rintro e w2 ⟨rfl, hb⟩
      have HB := Lib.hid (HB.out.trans (hb.mono HB.out.size))
      have HK := Lib.hid (blk_later HK.out hb)
      clear hb
      clear k0 k1 k2 k3
      go_wp2_with fail
      refine (HDU.out _ (HKW.out.below HB.out)).mono ?_
      rintro e w3 ⟨A1, c1, A1', c1', rfl, hr1, hc1, hb⟩
      have HX := Lib.hid (bx w3 (.cells #[.string id, .string sd, .int .i64 dt, .slice A1 rs.length c1] 61))
      have HB := Lib.hid ((HB.out.trans (hb.mono HB.out.size)).trans (HX.out.mono (HB.out.trans (hb.mono HB.out.size)).size))
      have HK := Lib.hid (blk_later (blk_later HK.out hb) HX.out)
      have HR1 := Lib.hid (hr1.below HX.out)
      clear hb hr1 hc1 HX
      have k0 := cell_c HK.out 0
      have k1 := cell_c HK.out 1
      have k2 := cell_c HK.out 2
      have k3 := cell_c HK.out 3
      simp at k0 k1 k2 k3
      go_wp2_with fail
      refine (HSA.out _ _ _ (HR.out.below HB.out) HR1.out).mono ?_
      rintro e w4 ⟨rfl, hb⟩
      have HB := Lib.hid (HB.out.trans (hb.mono HB.out.size))
      have HK := Lib.hid (blk_later HK.out hb)
      clear hb
      clear k0 k1 k2 k3
      have k0 := cell_c HK.out 0
      have k1 := cell_c HK.out 1
      have k2 := cell_c HK.out 2
      have k3 := cell_c HK.out 3
      simp at k0 k1 k2 k3
      go_wp2_with fail
      refine (HCK.out _ (HR.out.below HB.out)).mono ?_
      rintro e w5 ⟨rfl, hb⟩
      have HB := Lib.hid (HB.out.trans (hb.mono HB.out.size))
      have HK := Lib.hid (blk_later HK.out hb)
      clear hb
      clear k0 k1 k2 k3
      go_wp2_with fail
      refine (HDS.out _ (HKW.out.below HB.out)).mono ?_
      rintro e w6 ⟨A2, c2, A2', c2', E2, hE2, rfl, hb⟩
      have heb2 : (E2 != 0) = true := by simpa using hE2
      have HX := Lib.hid (bx w6 (.cells #[.string ⟨#[]⟩, .string ⟨#[]⟩, .int .i64 0, .slice A2 0 c2] 61))
      have HB := Lib.hid ((HB.out.trans (hb.mono HB.out.size)).trans (HX.out.mono (HB.out.trans (hb.mono HB.out.size)).size))
      clear hb hE2 HX
      go_wp2_with fail
      refine (HAW.out _ (HKW.out.below HB.out)).mono ?_
      rintro e wa ⟨rfl, hb⟩
      have HB := Lib.hid (HB.out.trans (hb.mono HB.out.size))
      clear hb
      go_wp2_with fail
      go_ret
      exact ⟨rfl, HB.out⟩
    case neg =>
      have heb : (E == 0) = false := by simpa using hE
      have hec : (E != E) = false := by simp
      have hT : T = ⟨#[]⟩ := HEB.out hE
      subst hT
      clear hE HTL HEB HDT HSA
      go_enter Tryz.func7, Tryz.ntmps7
      go_wp2_with fail
      refine (HBO.out _ (HR.out.below (bx _ _))).mono ?_
      rintro e w1 ⟨rfl, hb⟩
      have HB := Lib.hid ((bx w (.cells #[.string id, .string sd, .int .i64 dt, .slice A rs.length cp] 61)).trans (hb.mono (bx w _).size))
      have HK := Lib.hid (blk_later HBX.out hb)
      clear hb
      have k0 := cell_c HK.out 0
      have k1 := cell_c HK.out 1
      have k2 := cell_c HK.out 2
      have k3 := cell_c HK.out 3
      simp at k0 k1 k2 k3
      go_wp2_with fail
      refine (HEN.out _ (HKW.out.below HB.out) (HR.out.below HB.out)).mono ?_
      rintro e w2 ⟨rfl, hb⟩
      have HB := Lib.hid (HB.out.trans (hb.mono HB.out.size))
      have HK := Lib.hid (blk_later HK.out hb)
      clear hb
      clear k0 k1 k2 k3
      have k0 := cell_c HK.out 0
      have k1 := cell_c HK.out 1
      have k2 := cell_c HK.out 2
      have k3 := cell_c HK.out 3
      simp at k0 k1 k2 k3
      go_wp2_with fail
      refine (HCK.out _ (HR.out.below HB.out)).mono ?_
      rintro e w3 ⟨rfl, hb⟩
      have HB := Lib.hid (HB.out.trans (hb.mono HB.out.size))
      have HK := Lib.hid (blk_later HK.out hb)
      clear hb
      clear k0 k1 k2 k3
      go_wp2_with fail
      refine (HDS.out _ (HKW.out.below HB.out)).mono ?_
      rintro e w6 ⟨A2, c2, A2', c2', E2, hE2, rfl, hb⟩
      have heb2 : (E2 != 0) = true := by simpa using hE2
      have HX := Lib.hid (bx w6 (.cells #[.string ⟨#[]⟩, .string ⟨#[]⟩, .int .i64 0, .slice A2 0 c2] 61))
      have HB := Lib.hid ((HB.out.trans (hb.mono HB.out.size)).trans (HX.out.mono (HB.out.trans (hb.mono HB.out.size)).size))
      clear hb hE2 HX
      go_wp2_with fail
      refine (HAW.out _ (HKW.out.below HB.out)).mono ?_
      rintro e wa ⟨rfl, hb⟩
      have HB := Lib.hid (HB.out.trans (hb.mono HB.out.size))
      clear hb
      go_wp2_with fail
      go_ret
      exact ⟨rfl, HB.out⟩
  case pos =>
  have hgood := dec_good hf
  have HDS := Lib.hid (fun W hW => dgd_any s W hW hs1 hf)
  obtain ⟨v1, v2, v3⟩ := file_sz hf
  have hv4 := (chkB_zero hgood).2.1
  have hvok : BatOk (fileV s) := ⟨by unfold maxLen; omega, by unfold maxLen; omega, fun x hx => szR_fit (by have := v3 x hx; omega)⟩
  have HCV : Hid (∀ A c W, IsRow W A ((fileV s).rs.flatMap recF) → (fileV s).rs.length ≤ c → Calls Tryz.prog 47 #[batV (fileV s) A c] W (fun e w' => e = .returned (.int .i64 0) ∧ Below W.heap.size W w')) := Lib.hid (fun A c W h hc => by
    have := bcheck_any A c (fileV s) W h hvok hc (by omega)
    unfold PtPost at this
    rw [hgood] at this; exact this)
  have HEV0 : Hid (fileB s = [] → ∀ A c W, BW W → IsRow W A ((fileV s).rs.flatMap recF) → (fileV s).rs.length ≤ c → Calls Tryz.prog 43 #[batV (fileV s) A c] W (fun e w' => e = .returned (.tuple #[.string s, .int .i64 0]) ∧ Below W.heap.size W w')) := Lib.hid (fun hb A c W hW h hc => by
    have := benc_any A c (fileV s) W hW h hvok (fun x hx => by have := v3 x hx; omega) (by omega) (by omega) hc (by omega)
    unfold BenPost at this
    rw [hgood, enc_of_dec hf hb] at this; exact this)
  unfold DgdP at HDS
  unfold batV at HCV HEV0
  clear hgood v1 v2 v3 hv4 hvok hf
  generalize fileV s = V at *
  obtain ⟨vid, vsd, vdt, vrs⟩ := V
  dsimp only at HDS HCV HEV0
  by_cases hbad : fileB s = []
  case neg =>
    have hn : 0 < (fileB s).length := List.length_pos_iff.2 hbad
    clear HEV0 hbad
    generalize (fileB s).length = nb at *
    have hnI : (0 : Int) < (nb : Int) := by omega
    by_cases hE : E = 0
    case pos =>
      subst hE
      have HDU := Lib.hid (HDT.out rfl (HTL.out rfl (by trivial)))
      clear HTL HEB HDT
      go_enter Tryz.func7, Tryz.ntmps7
      go_wp2_with fail
      refine (HBO.out _ (HR.out.below (bx _ _))).mono ?_
      rintro e w1 ⟨rfl, hb⟩
      have HB := Lib.hid ((bx w (.cells #[.string id, .string sd, .int .i64 dt, .slice A rs.length cp] 61)).trans (hb.mono (bx w _).size))
      have HK := Lib.hid (blk_later HBX.out hb)
      clear hb
      have k0 := cell_c HK.out 0
      have k1 := cell_c HK.out 1
      have k2 := cell_c HK.out 2
      have k3 := cell_c HK.out 3
      simp at k0 k1 k2 k3
      go_wp2_with fail
      refine (HEN.out _ (HKW.out.below HB.out) (HR.out.below HB.out)).mono ?_
      rintro e w2 ⟨rfl, hb⟩
      have HB := Lib.hid (HB.out.trans (hb.mono HB.out.size))
      have HK := Lib.hid (blk_later HK.out hb)
      clear hb
      clear k0 k1 k2 k3
      go_wp2_with fail
      refine (HDU.out _ (HKW.out.below HB.out)).mono ?_
      rintro e w3 ⟨A1, c1, A1', c1', rfl, hr1, hc1, hb⟩
      have HX := Lib.hid (bx w3 (.cells #[.string id, .string sd, .int .i64 dt, .slice A1 rs.length c1] 61))
      have HB := Lib.hid ((HB.out.trans (hb.mono HB.out.size)).trans (HX.out.mono (HB.out.trans (hb.mono HB.out.size)).size))
      have HK := Lib.hid (blk_later (blk_later HK.out hb) HX.out)
      have HR1 := Lib.hid (hr1.below HX.out)
      clear hb hr1 hc1 HX
      have k0 := cell_c HK.out 0
      have k1 := cell_c HK.out 1
      have k2 := cell_c HK.out 2
      have k3 := cell_c HK.out 3
      simp at k0 k1 k2 k3
      go_wp2_with fail
      refine (HSA.out _ _ _ (HR.out.below HB.out) HR1.out).mono ?_
      rintro e w4 ⟨rfl, hb⟩
      have HB := Lib.hid (HB.out.trans (hb.mono HB.out.size))
      have HK := Lib.hid (blk_later HK.out hb)
      clear hb
      clear k0 k1 k2 k3
      have k0 := cell_c HK.out 0
      have k1 := cell_c HK.out 1
      have k2 := cell_c HK.out 2
      have k3 := cell_c HK.out 3
      simp at k0 k1 k2 k3
      go_wp2_with fail
      refine (HCK.out _ (HR.out.below HB.out)).mono ?_
      rintro e w5 ⟨rfl, hb⟩
      have HB := Lib.hid (HB.out.trans (hb.mono HB.out.size))
      have HK := Lib.hid (blk_later HK.out hb)
      clear hb
      clear k0 k1 k2 k3
      go_wp2_with fail
      refine (HDS.out _ (HKW.out.below HB.out)).mono ?_
      rintro e w6 ⟨A2, c2, A2', c2', rfl, hr2, hc2, hb⟩
      have HX := Lib.hid (bx w6 (.cells #[.string vid, .string vsd, .int .i64 vdt, .slice A2 vrs.length c2] 61))
      have HB := Lib.hid ((HB.out.trans (hb.mono HB.out.size)).trans (HX.out.mono (HB.out.trans (hb.mono HB.out.size)).size))
      have HR2 := Lib.hid (hr2.below HX.out)
      have HC2 := Lib.hid hc2
      clear hb hr2 hc2 HX
      go_wp2_with fail
      refine (HCV.out _ _ _ HR2.out HC2.out).mono ?_
      rintro e w7 ⟨rfl, hb⟩
      have HB := Lib.hid (HB.out.trans (hb.mono HB.out.size))
      clear hb
      go_wp2_with fail
      refine (HAW.out _ (HKW.out.below HB.out)).mono ?_
      rintro e wa ⟨rfl, hb⟩
      have HB := Lib.hid (HB.out.trans (hb.mono HB.out.size))
      clear hb
      go_wp2_with fail
      go_ret
      exact ⟨rfl, HB.out⟩
    case neg =>
      have heb : (E == 0) = false := by simpa using hE
      have hec : (E != E) = false := by simp
      have hT : T = ⟨#[]⟩ := HEB.out hE
      subst hT
      clear hE HTL HEB HDT HSA
      go_enter Tryz.func7, Tryz.ntmps7
      go_wp2_with fail
      refine (HBO.out _ (HR.out.below (bx _ _))).mono ?_
      rintro e w1 ⟨rfl, hb⟩
      have HB := Lib.hid ((bx w (.cells #[.string id, .string sd, .int .i64 dt, .slice A rs.length cp] 61)).trans (hb.mono (bx w _).size))
      have HK := Lib.hid (blk_later HBX.out hb)
      clear hb
      have k0 := cell_c HK.out 0
      have k1 := cell_c HK.out 1
      have k2 := cell_c HK.out 2
      have k3 := cell_c HK.out 3
      simp at k0 k1 k2 k3
      go_wp2_with fail
      refine (HEN.out _ (HKW.out.below HB.out) (HR.out.below HB.out)).mono ?_
      rintro e w2 ⟨rfl, hb⟩
      have HB := Lib.hid (HB.out.trans (hb.mono HB.out.size))
      have HK := Lib.hid (blk_later HK.out hb)
      clear hb
      clear k0 k1 k2 k3
      have k0 := cell_c HK.out 0
      have k1 := cell_c HK.out 1
      have k2 := cell_c HK.out 2
      have k3 := cell_c HK.out 3
      simp at k0 k1 k2 k3
      go_wp2_with fail
      refine (HCK.out _ (HR.out.below HB.out)).mono ?_
      rintro e w3 ⟨rfl, hb⟩
      have HB := Lib.hid (HB.out.trans (hb.mono HB.out.size))
      have HK := Lib.hid (blk_later HK.out hb)
      clear hb
      clear k0 k1 k2 k3
      go_wp2_with fail
      refine (HDS.out _ (HKW.out.below HB.out)).mono ?_
      rintro e w6 ⟨A2, c2, A2', c2', rfl, hr2, hc2, hb⟩
      have HX := Lib.hid (bx w6 (.cells #[.string vid, .string vsd, .int .i64 vdt, .slice A2 vrs.length c2] 61))
      have HB := Lib.hid ((HB.out.trans (hb.mono HB.out.size)).trans (HX.out.mono (HB.out.trans (hb.mono HB.out.size)).size))
      have HR2 := Lib.hid (hr2.below HX.out)
      have HC2 := Lib.hid hc2
      clear hb hr2 hc2 HX
      go_wp2_with fail
      refine (HCV.out _ _ _ HR2.out HC2.out).mono ?_
      rintro e w7 ⟨rfl, hb⟩
      have HB := Lib.hid (HB.out.trans (hb.mono HB.out.size))
      clear hb
      go_wp2_with fail
      refine (HAW.out _ (HKW.out.below HB.out)).mono ?_
      rintro e wa ⟨rfl, hb⟩
      have HB := Lib.hid (HB.out.trans (hb.mono HB.out.size))
      clear hb
      go_wp2_with fail
      go_ret
      exact ⟨rfl, HB.out⟩
  case pos =>
    have HEV := Lib.hid (HEV0.out hbad)
    rw [hbad] at HDS
    clear HEV0 hbad HCV
    dsimp only [List.length_nil] at HDS
    by_cases hE : E = 0
    case pos =>
      subst hE
      have HDU := Lib.hid (HDT.out rfl (HTL.out rfl (by trivial)))
      clear HTL HEB HDT
      go_enter Tryz.func7, Tryz.ntmps7
      go_wp2_with fail
      refine (HBO.out _ (HR.out.below (bx _ _))).mono ?_
      rintro e w1 ⟨rfl, hb⟩
      have HB := Lib.hid ((bx w (.cells #[.string id, .string sd, .int .i64 dt, .slice A rs.length cp] 61)).trans (hb.mono (bx w _).size))
      have HK := Lib.hid (blk_later HBX.out hb)
      clear hb
      have k0 := cell_c HK.out 0
      have k1 := cell_c HK.out 1
      have k2 := cell_c HK.out 2
      have k3 := cell_c HK.out 3
      simp at k0 k1 k2 k3
      go_wp2_with fail
      refine (HEN.out _ (HKW.out.below HB.out) (HR.out.below HB.out)).mono ?_
      rintro e w2 ⟨rfl, hb⟩
      have HB := Lib.hid (HB.out.trans (hb.mono HB.out.size))
      have HK := Lib.hid (blk_later HK.out hb)
      clear hb
      clear k0 k1 k2 k3
      go_wp2_with fail
      refine (HDU.out _ (HKW.out.below HB.out)).mono ?_
      rintro e w3 ⟨A1, c1, A1', c1', rfl, hr1, hc1, hb⟩
      have HX := Lib.hid (bx w3 (.cells #[.string id, .string sd, .int .i64 dt, .slice A1 rs.length c1] 61))
      have HB := Lib.hid ((HB.out.trans (hb.mono HB.out.size)).trans (HX.out.mono (HB.out.trans (hb.mono HB.out.size)).size))
      have HK := Lib.hid (blk_later (blk_later HK.out hb) HX.out)
      have HR1 := Lib.hid (hr1.below HX.out)
      clear hb hr1 hc1 HX
      have k0 := cell_c HK.out 0
      have k1 := cell_c HK.out 1
      have k2 := cell_c HK.out 2
      have k3 := cell_c HK.out 3
      simp at k0 k1 k2 k3
      go_wp2_with fail
      refine (HSA.out _ _ _ (HR.out.below HB.out) HR1.out).mono ?_
      rintro e w4 ⟨rfl, hb⟩
      have HB := Lib.hid (HB.out.trans (hb.mono HB.out.size))
      have HK := Lib.hid (blk_later HK.out hb)
      clear hb
      clear k0 k1 k2 k3
      have k0 := cell_c HK.out 0
      have k1 := cell_c HK.out 1
      have k2 := cell_c HK.out 2
      have k3 := cell_c HK.out 3
      simp at k0 k1 k2 k3
      go_wp2_with fail
      refine (HCK.out _ (HR.out.below HB.out)).mono ?_
      rintro e w5 ⟨rfl, hb⟩
      have HB := Lib.hid (HB.out.trans (hb.mono HB.out.size))
      have HK := Lib.hid (blk_later HK.out hb)
      clear hb
      clear k0 k1 k2 k3
      go_wp2_with fail
      refine (HDS.out _ (HKW.out.below HB.out)).mono ?_
      rintro e w6 ⟨A2, c2, A2', c2', rfl, hr2, hc2, hb⟩
      have HX := Lib.hid (bx w6 (.cells #[.string vid, .string vsd, .int .i64 vdt, .slice A2 vrs.length c2] 61))
      have HB := Lib.hid ((HB.out.trans (hb.mono HB.out.size)).trans (HX.out.mono (HB.out.trans (hb.mono HB.out.size)).size))
      have HR2 := Lib.hid (hr2.below HX.out)
      have HC2 := Lib.hid hc2
      clear hb hr2 hc2 HX
      go_wp2_with fail
      refine (HEV.out _ _ _ (HKW.out.below HB.out) HR2.out HC2.out).mono ?_
      rintro e w7 ⟨rfl, hb⟩
      have HB := Lib.hid (HB.out.trans (hb.mono HB.out.size))
      clear hb
      go_wp2_with fail
      refine (HAW.out _ (HKW.out.below HB.out)).mono ?_
      rintro e wa ⟨rfl, hb⟩
      have HB := Lib.hid (HB.out.trans (hb.mono HB.out.size))
      clear hb
      go_wp2_with fail
      go_ret
      exact ⟨rfl, HB.out⟩
    case neg =>
      have heb : (E == 0) = false := by simpa using hE
      have hec : (E != E) = false := by simp
      have hT : T = ⟨#[]⟩ := HEB.out hE
      subst hT
      clear hE HTL HEB HDT HSA
      go_enter Tryz.func7, Tryz.ntmps7
      go_wp2_with fail
      refine (HBO.out _ (HR.out.below (bx _ _))).mono ?_
      rintro e w1 ⟨rfl, hb⟩
      have HB := Lib.hid ((bx w (.cells #[.string id, .string sd, .int .i64 dt, .slice A rs.length cp] 61)).trans (hb.mono (bx w _).size))
      have HK := Lib.hid (blk_later HBX.out hb)
      clear hb
      have k0 := cell_c HK.out 0
      have k1 := cell_c HK.out 1
      have k2 := cell_c HK.out 2
      have k3 := cell_c HK.out 3
      simp at k0 k1 k2 k3
      go_wp2_with fail
      refine (HEN.out _ (HKW.out.below HB.out) (HR.out.below HB.out)).mono ?_
      rintro e w2 ⟨rfl, hb⟩
      have HB := Lib.hid (HB.out.trans (hb.mono HB.out.size))
      have HK := Lib.hid (blk_later HK.out hb)
      clear hb
      clear k0 k1 k2 k3
      have k0 := cell_c HK.out 0
      have k1 := cell_c HK.out 1
      have k2 := cell_c HK.out 2
      have k3 := cell_c HK.out 3
      simp at k0 k1 k2 k3
      go_wp2_with fail
      refine (HCK.out _ (HR.out.below HB.out)).mono ?_
      rintro e w3 ⟨rfl, hb⟩
      have HB := Lib.hid (HB.out.trans (hb.mono HB.out.size))
      have HK := Lib.hid (blk_later HK.out hb)
      clear hb
      clear k0 k1 k2 k3
      go_wp2_with fail
      refine (HDS.out _ (HKW.out.below HB.out)).mono ?_
      rintro e w6 ⟨A2, c2, A2', c2', rfl, hr2, hc2, hb⟩
      have HX := Lib.hid (bx w6 (.cells #[.string vid, .string vsd, .int .i64 vdt, .slice A2 vrs.length c2] 61))
      have HB := Lib.hid ((HB.out.trans (hb.mono HB.out.size)).trans (HX.out.mono (HB.out.trans (hb.mono HB.out.size)).size))
      have HR2 := Lib.hid (hr2.below HX.out)
      have HC2 := Lib.hid hc2
      clear hb hr2 hc2 HX
      go_wp2_with fail
      refine (HEV.out _ _ _ (HKW.out.below HB.out) HR2.out HC2.out).mono ?_
      rintro e w7 ⟨rfl, hb⟩
      have HB := Lib.hid (HB.out.trans (hb.mono HB.out.size))
      clear hb
      go_wp2_with fail
      refine (HAW.out _ (HKW.out.below HB.out)).mono ?_
      rintro e wa ⟨rfl, hb⟩
      have HB := Lib.hid (HB.out.trans (hb.mono HB.out.size))
      clear hb
      go_wp2_with fail
      go_ret
      exact ⟨rfl, HB.out⟩
theorem batchRoundTrip_walk (w : World) (hw : BW w) (_ : True) (x : BArg) (hx : BOk w x) (s : ByteArray) (hs : s.size ≤ maxLen) :
    Calls Tryz.prog 7 #[x.val, .string s] w fun e w' => e = .returned (.bool true) ∧ Below w.heap.size w w' :=
  roundB_any x.A x.cp x.b s w hw hx.r hx.k hx.c (Nat.le_trans hx.c hx.m) hs
end Go.Proofs.YthflmdgfenojcaaGreatDoor
