/- What the law needs beyond the packed texts. -/
import Derived.Shelf.Strings.Builder1
import Derived.Shelf.Strings.Builder2
import Derived.Shelf.Strings.OnBuilder
import Derived.Shelf.Small.Utf8
import Derived.Shelf.Small.Strs
import Derived.Shelf.Strings.BuilderF
import Derived.Shelf.Strings.BuilderK
import Derived.Shelf.Utf8.RuneCount
import Derived.Shelf.Strings.Builder2Cap
import Derived.Shelf.Strconv.Itoa0
import Derived.Shelf.Strconv.Itoa1
import Derived.Shelf.LaysM
import Derived.Shelf.Strconv.Itoa2
import Derived.Shelf.Strconv.Itoa3
import Derived.Shelf.Strconv.Itoa4
import Derived.Shelf.Strconv.ParseIntEmpty
import Derived.Shelf.Strconv.Clone
import Derived.Shelf.Strconv.SyntaxError
import Derived.Shelf.LaysC
import Derived.Shelf.Strconv.ToError
import Derived.Shelf.Strconv.Lower
import Derived.Shelf.Strconv.ParseUint10
import Derived.Shelf.Strconv.ParseUint10Empty
import Derived.Shelf.Strconv.ParseUint10Any
import Derived.Shelf.Strconv.ParseInt10
import Derived.Shelf.Strconv.RangeError
import Derived.Shelf.Strconv.ToErrorRange
import Derived.Shelf.Strconv.ParseUintEmpty
import Derived.Shelf.Strconv.ParseUint10b64
import Derived.Shelf.Strconv.ParseUint10b32
import Derived.Shelf.Strconv.ParseUint10b16
import Derived.Shelf.Strconv.ParseUint10b8
import Derived.Shelf.Strconv.ParseUint10At
import Derived.Shelf.Strconv.ParseInt10At64
import Derived.Shelf.Strconv.ParseInt10At32
import Derived.Shelf.Strconv.ParseInt10At16
import Derived.Shelf.Strconv.ParseInt10At8
import Derived.Shelf.Strconv.ParseInt10All
import Derived.Shelf.Strconv.ParseIntPublic10
import Derived.Shelf.Strconv.ErrVarParseInt
import Derived.Shelf.Strings.Search1
import Derived.Shelf.Strings.Search2
import Derived.Shelf.Strings.Search3
import Derived.Shelf.Strings.Count
import Derived.Shelf.Strings.Shaped
import Derived.Shelf.Strings.Prefix
import Derived.Shelf.Strings.Split
import Derived.Shelf.Strings.SplitShaped
import Derived.Shelf.Unicode.Decode
import Derived.Shelf.Strings.Runes
import Derived.Shelf.Strings.RuneCount
import Derived.Shelf.Strings.Explode
import Derived.Shelf.Bits.Mul64
import Derived.Shelf.Strings.Repeat
import Derived.Shelf.Unicode.DecodeSlow
import Derived.Shelf.Unicode.DecodeAny
import Derived.Shelf.Strings.BuilderCap
import Derived.Test.YthflmdgfenojcaaGreatDoorProg
import Derived.Laws.MakeOwn
import Derived.Laws.Rows
import Derived.Outline
import Derived.Lib.OthersKept
import Derived.Lib.ItoaLen
import Derived.Deep.RegionHeld3
import Derived.Test.YthflmdgfenojcaaGreatDoorRows
import Derived.Lib.LaidTab
import Derived.Lib.SmallJoins
import Derived.OpenShut
import Derived.Stop.LaidErr
import Derived.Shelf.Vars
import Derived.Below
import Derived.Laws.OwnMore
import Derived.Deep.AppendLies
import Derived.Deep.Draws
import Derived.Maps.AppendAt
import Derived.RegionTactic
import Derived.OwnWalk
import Derived.SizedLaws
import Derived.Deep.Slices
import Derived.Deep.Fields
import Derived.Deep.RegionLaw
import Derived.Test.YthflmdgfenojcaaGreatDoorQBase
import Derived.Test.YthflmdgfenojcaaGreatDoorQShelf
import Derived.Test.YthflmdgfenojcaaGreatDoorQLex
import Derived.Test.YthflmdgfenojcaaGreatDoorQPan
import Derived.Test.YthflmdgfenojcaaGreatDoorQMon
import Derived.Test.YthflmdgfenojcaaGreatDoorQPlain
import Derived.Test.YthflmdgfenojcaaGreatDoorQRec
import Derived.Test.YthflmdgfenojcaaGreatDoorQChk
import Derived.Test.YthflmdgfenojcaaGreatDoorQNbr
import Derived.Test.YthflmdgfenojcaaGreatDoorQEnc
import Derived.Test.YthflmdgfenojcaaGreatDoorQCut
import Derived.Test.YthflmdgfenojcaaGreatDoorQDec
import Derived.Test.YthflmdgfenojcaaGreatDoorQSl
import Derived.Test.YthflmdgfenojcaaGreatDoorQAw
import Derived.Test.YthflmdgfenojcaaGreatDoorQC7p
import Derived.Test.YthflmdgfenojcaaGreatDoorQC7Walk
import Derived.Test.YthflmdgfenojcaaGreatDoorQRws
import Derived.Test.YthflmdgfenojcaaGreatDoorQHx
import Derived.Test.YthflmdgfenojcaaGreatDoorQBd
import Derived.Test.YthflmdgfenojcaaGreatDoorQFx16
import Derived.Test.YthflmdgfenojcaaGreatDoorQPr
import Derived.Test.YthflmdgfenojcaaGreatDoorQCr
import Derived.Test.YthflmdgfenojcaaGreatDoorQBnm
import Derived.Test.YthflmdgfenojcaaGreatDoorQSum
import Derived.Test.YthflmdgfenojcaaGreatDoorQCl
import Derived.Test.YthflmdgfenojcaaGreatDoorQBck
import Derived.Test.YthflmdgfenojcaaGreatDoorQBen
import Derived.Test.YthflmdgfenojcaaGreatDoorQExm
import Derived.Test.YthflmdgfenojcaaGreatDoorQDcd
import Derived.Test.YthflmdgfenojcaaGreatDoorQFew
import Derived.Test.YthflmdgfenojcaaGreatDoorQDvw
import Derived.Test.YthflmdgfenojcaaGreatDoorQDcw
import Derived.Test.YthflmdgfenojcaaGreatDoorQAwb
import Derived.Test.YthflmdgfenojcaaGreatDoorQLDe
import Derived.Test.YthflmdgfenojcaaGreatDoorQHo
import Derived.Test.YthflmdgfenojcaaGreatDoorQRds
import Derived.Test.YthflmdgfenojcaaGreatDoorQLTo
import Derived.Test.YthflmdgfenojcaaGreatDoorQLCd
import Derived.Test.YthflmdgfenojcaaGreatDoorQIKm
/-
  DERIVED: THE SHELF's CONTRACTS AT THIS DUMP, IN PLAIN WORDS (tools/lay-plain.mjs out of 'TryzShelf.lean', which tools/lay-shelf.mjs wrote): THE SAME DECLARATIONS UNDER THE SAME NAMES: 'import', 'namespace', 'open', 'def', 'theorem' AND NOTHING ELSE: no command of the shelf's: FOR A HAND-IN. Each laying: the table of numbers ('.._ren') and one theorem, a field a fact of the dump's own or the kernel's comparison; each contract: ONE APPLICATION.
-/
namespace Go.Proofs
open Go.Shelf
def Tryz.lays169_ren : Go.Shelf.Ren := ⟨fun | 169 => 97 | n => n, fun | 70 => 136 | 9 => 9 | 0 => 0 | 72 => 138 | 37 => 80 | 127 => 173 | 3 => 3 | 5 => 5 | n => n, fun | n => n⟩
theorem Tryz.lays169 : Go.Proofs.Lays.n169 Tryz.prog Tryz.lays169_ren := {
  mixed := by kernel_rfl
  f169 := Tryz.func97.trans (congrArg some (by kernel_rfl))
  t0 := Tryz.underlying0
  a0 := Tryz.isAgg0
  z0 := Tryz.sizeOf0
  v0 := Tryz.zeroValue0
  t3 := Tryz.underlying3
  a3 := Tryz.isAgg3
  z3 := Tryz.sizeOf3
  v3 := Tryz.zeroValue3
  t9 := Tryz.underlying9
  a9 := Tryz.isAgg9
  z9 := Tryz.sizeOf9
  v9 := Tryz.zeroValue9
  t37 := Tryz.underlying80
  a37 := Tryz.isAgg80
  z37 := Tryz.sizeOf80
  v37 := Tryz.zeroValue80
  t70 := Tryz.underlying136
  a70 := Tryz.isAgg136
  z70 := Tryz.sizeOf136
  v70 := Tryz.zeroValue136
  t72 := Tryz.underlying138
  a72 := Tryz.isAgg138
  z72 := Tryz.sizeOf138
  v72 := Tryz.zeroValue138
  t127 := Tryz.underlying173
  a127 := Tryz.isAgg173
  z127 := Tryz.sizeOf173
  v127 := Tryz.zeroValue173 }
theorem Tryz.Builder_Extra_169 : Builder.Extra Tryz.prog Tryz.lays169_ren := {
  sizeBuilder := by kernel_rfl
  liesBuilder := by kernel_rfl
  t5 := Tryz.underlying5
  a5 := Tryz.isAgg5
  z5 := Tryz.sizeOf5
  v5 := Tryz.zeroValue5
  infoByte := by kernel_rfl
  cellsByte := by kernel_rfl
  sizeByte := by kernel_rfl
  neB5 := by decide }
open Go.RowKit in
/-- (*strings.Builder).String: "String returns the accumulated string.": WHATEVER THE BUILDER HOLDS; THE FORM '_k': OVER 'Lib.IsBuilderF' (a builder that 'String()' may have read), AND WITH THE FRAME THAT REACHES ABOVE THE BUILDER: 'Lib.OthersKept': every block that is not b and is no row of uint8's stands as it stood: the iterator of a range among them. (LAID: no walk: one application.) -/
theorem Tryz.Builder_String_any_k (B b : Nat) (l : List UInt8) (w : World) (h : Lib.IsBuilderF 138 5 B b (Lib.byteCells l) w) (hBw : B ≤ w.heap.size) :
    Calls Tryz.prog 97 #[.pointer (some ⟨b, 0, none⟩)] w fun e w' => e = .returned (.string ⟨l.toArray⟩) ∧ (Lib.IsBuilderF 138 5 B b (Lib.byteCells l) w' ∧ Below B w w' ∧ Lib.OthersKept 5 (some b) w w') := Any.Builder_String_any_k Tryz.lays169 Tryz.Builder_Extra_169 B b l w h hBw
end Go.Proofs
namespace Go.Proofs.YthflmdgfenojcaaGreatDoor
set_option linter.unusedVariables false
open Go.RowKit
theorem mk9 : (Tryz.prog.info? 9).map (fun i => (i.zero, i.size, i.bytes)) = some (some (.string ByteArray.empty), 1, 16) := by kernel_rfl
set_option maxRecDepth 100000 in
theorem make12 (w : World) : (Instr.makeSlice 22 (.int .i64 12) (.int .i64 12)).run Tryz.prog w = .ok (.slice (some ⟨w.heap.size, 0, none⟩) 12 12) (w.alloc (.cells #[.string ByteArray.empty, .string ByteArray.empty, .string ByteArray.empty, .string ByteArray.empty, .string ByteArray.empty, .string ByteArray.empty, .string ByteArray.empty, .string ByteArray.empty, .string ByteArray.empty, .string ByteArray.empty, .string ByteArray.empty, .string ByteArray.empty] 9)) := by
  obtain ⟨i0, hi0, hz0, hz1, hz2⟩ := info_parts mk9
  have := run_make (P := Tryz.prog) w 22 9 i0 _ Tryz.underlying22 hi0 hz0 .i64 .i64 12 12 (by omega) (by omega) (by rw [hz2]; omega) (by omega)
  have hm : madeCells (Value.string ByteArray.empty).cells (Int.toNat 12 * 1) = #[.string ByteArray.empty, .string ByteArray.empty, .string ByteArray.empty, .string ByteArray.empty, .string ByteArray.empty, .string ByteArray.empty, .string ByteArray.empty, .string ByteArray.empty, .string ByteArray.empty, .string ByteArray.empty, .string ByteArray.empty, .string ByteArray.empty] := by kernel_rfl
  rw [this, hz1, hm]
  rfl
theorem cells_xs {W : World} {A : Nat} {xs : List ByteArray} (h : W.heap[A]? = some (.cells (xs.map Value.string).toArray 9)) : ∀ (j : Nat) x, xs[j]? = some x → W.cell? ⟨A, 0 + j, none⟩ = some (.string x) := by
  intro j x hx
  rw [cell_c h, Nat.zero_add]
  simp [hx]
theorem nd_le (u : Nat) : Lib.nDigits u ≤ u + 1 := by
  induction u using Nat.strongRecOn with
  | _ u ih =>
    rw [Lib.nDigits]
    split
    · omega
    · have := ih (u / 10) (by omega); omega
theorem itoS_len (v : Int) : (itoS v).data.toList.length ≤ v.natAbs + 2 := by
  show (Lib.itoa v).length ≤ _
  unfold Lib.itoa
  split
  · have := nd_le v.natAbs
    rw [List.length_cons, Lib.decDigits_length]; omega
  · have := nd_le v.toNat
    rw [Lib.decDigits_length]; omega
set_option maxHeartbeats 12800000 in
set_option maxRecDepth 100000 in
theorem enc_any (r : Rec) (hr : r.Fit) (hsz : r.id.size + r.au.size + r.aq.size + r.iss.size + r.me.size + r.ca.size + r.cu.size ≤ 1000000) (w : World) (hw : KW w) : Calls Tryz.prog 33 #[r.val] w (EncPost r w) := by
  have HC := Lib.hid (fun W => chk_any r hr W)
  have HI := Lib.hid (Fit.ints r)
  have HV := Lib.hid (show encV r = if chkE r = 0 then encS r else ⟨#[]⟩ from rfl)
  have HS := Lib.hid (show encS r = ⟨(Lib.join (r.texts.map (·.data.toList)) [124]).toArray⟩ from rfl)
  have HW := Lib.hid hw
  have HSZ := Lib.hid hsz
  unfold EncPost
  unfold PtPost at HC
  generalize chkE r = CE at *
  generalize encV r = EV at *
  generalize encS r = ES at *
  obtain ⟨K, id, au, aq, iss, me, ca, a, cu, d, c, f⟩ := r
  unfold Rec.val Rec.cells at *
  unfold Rec.texts at HS
  dsimp only at *
  clear hr hw hsz
  cases q : (CE != 0)
  case true =>
    have hne : CE ≠ 0 := by simpa using q
    have HE := Lib.hid (show EV = ⟨#[]⟩ by rw [HV.out, if_neg hne])
    clear hne
    go_enter Tryz.func33, Tryz.ntmps33
    go_wp2_with fail
    refine (HC.out _).mono ?_
    rintro e w1 ⟨rfl, hb⟩
    have HB := Lib.hid (box1 hb).2.2
    clear hb
    go_wp2_with fail
    go_ret2
    exact ⟨by rw [HE.out]; rfl, HB.out⟩
  case false =>
    have h0 : CE = 0 := by simpa using q
    subst h0
    have HE := Lib.hid (show EV = ES by rw [HV.out, if_pos rfl])
    have HIN := Lib.hid (HI.out rfl)
    clear q
    go_enter Tryz.func33, Tryz.ntmps33
    go_wp2_with fail
    refine (HC.out _).mono ?_
    rintro e w1 ⟨rfl, hb⟩
    obtain ⟨k1, hz, hb1⟩ := box1 hb
    have K1 := Lib.hid k1
    have HB := Lib.hid hb1
    have HZ := Lib.hid hz
    have r0 := cell_c (blk_later K1.out (bx w1 (.cells #[.string ByteArray.empty, .string ByteArray.empty, .string ByteArray.empty, .string ByteArray.empty, .string ByteArray.empty, .string ByteArray.empty, .string ByteArray.empty, .string ByteArray.empty, .string ByteArray.empty, .string ByteArray.empty, .string ByteArray.empty, .string ByteArray.empty] 9))) 0
    have hmk := make12 w1
    clear hb hb1 k1 hz
    go_wp2_with fail
    refine (itoa_any K _ (HW.out.below (HB.out.alloc HB.out.size _)).1 (by have := HIN.out; omega) (by have := HIN.out; omega)).mono ?_
    rintro e w2 ⟨rfl, hb⟩
    obtain ⟨kA, hz2, hb2⟩ := box1 hb
    have KA := Lib.hid kA
    have K2 := Lib.hid (blk_later K1.out hb2)
    have HB2 := Lib.hid (HB.out.trans (hb2.mono HB.out.size))
    have HA := Lib.hid (show w.heap.size ≤ w1.heap.size from HB.out.size)
    have HNE := Lib.hid (show w.heap.size ≠ w1.heap.size by have := HZ.out; omega)
    clear hmk hb kA hz2 hb2 r0
    generalize w1.heap.size = A at *
    have r1 := cell_c K2.out 1
    have r2 := cell_c K2.out 2
    have r3 := cell_c K2.out 3
    have r4 := cell_c K2.out 4
    have r5 := cell_c K2.out 5
    have r6 := cell_c K2.out 6
    have r7 := cell_c K2.out 7
    have a0 := cell_c KA.out 0
    have b0 := cell_f KA.out 0
    have a1 := cell_c KA.out 1
    have b1 := cell_f KA.out 1
    have a2 := cell_c KA.out 2
    have b2 := cell_f KA.out 2
    have a3 := cell_c KA.out 3
    have b3 := cell_f KA.out 3
    have a4 := cell_c KA.out 4
    have b4 := cell_f KA.out 4
    have a5 := cell_c KA.out 5
    have b5 := cell_f KA.out 5
    have a6 := cell_c KA.out 6
    have b6 := cell_f KA.out 6
    go_wp2_with fail
    refine (fint_any a _ (HW.out.below (((((((HB2.out.setCell (p := ⟨A, 0, none⟩) HA.out _).setCell (p := ⟨A, 1, none⟩) HA.out _).setCell (p := ⟨A, 2, none⟩) HA.out _).setCell (p := ⟨A, 3, none⟩) HA.out _).setCell (p := ⟨A, 4, none⟩) HA.out _).setCell (p := ⟨A, 5, none⟩) HA.out _).setCell (p := ⟨A, 6, none⟩) HA.out _)).1 (by have := HIN.out; omega) (by have := HIN.out; omega)).mono ?_
    rintro e w3 ⟨rfl, hb⟩
    have HB3 := Lib.hid ((((((((HB2.out.setCell (p := ⟨A, 0, none⟩) HA.out _).setCell (p := ⟨A, 1, none⟩) HA.out _).setCell (p := ⟨A, 2, none⟩) HA.out _).setCell (p := ⟨A, 3, none⟩) HA.out _).setCell (p := ⟨A, 4, none⟩) HA.out _).setCell (p := ⟨A, 5, none⟩) HA.out _).setCell (p := ⟨A, 6, none⟩) HA.out _).trans (hb.mono (((((((HB2.out.setCell (p := ⟨A, 0, none⟩) HA.out _).setCell (p := ⟨A, 1, none⟩) HA.out _).setCell (p := ⟨A, 2, none⟩) HA.out _).setCell (p := ⟨A, 3, none⟩) HA.out _).setCell (p := ⟨A, 4, none⟩) HA.out _).setCell (p := ⟨A, 5, none⟩) HA.out _).setCell (p := ⟨A, 6, none⟩) HA.out _).size))
    have KA3 : Hid (w3.heap[A]? = some (.cells #[.string (itoS K), .string id, .string au, .string aq, .string iss, .string me, .string ca, .string ByteArray.empty, .string ByteArray.empty, .string ByteArray.empty, .string ByteArray.empty, .string ByteArray.empty] 9)) := Lib.hid (blk_later (heap_setCell_same _ A 6 _ _ _ (heap_setCell_same _ A 5 _ _ _ (heap_setCell_same _ A 4 _ _ _ (heap_setCell_same _ A 3 _ _ _ (heap_setCell_same _ A 2 _ _ _ (heap_setCell_same _ A 1 _ _ _ (heap_setCell_same _ A 0 _ _ _ KA.out))))))) hb)
    have K3 : Hid (w3.heap[w.heap.size]? = some (.cells #[.int .i64 K, .string id, .string au, .string aq, .string iss, .string me, .string ca, .int .i64 a, .string cu, .int .i64 d, .int .i64 c, .bool f] 57)) := Lib.hid (blk_later ((heap_setCell_other _ ⟨A, 6, none⟩ _ _ HNE.out).trans ((heap_setCell_other _ ⟨A, 5, none⟩ _ _ HNE.out).trans ((heap_setCell_other _ ⟨A, 4, none⟩ _ _ HNE.out).trans ((heap_setCell_other _ ⟨A, 3, none⟩ _ _ HNE.out).trans ((heap_setCell_other _ ⟨A, 2, none⟩ _ _ HNE.out).trans ((heap_setCell_other _ ⟨A, 1, none⟩ _ _ HNE.out).trans ((heap_setCell_other _ ⟨A, 0, none⟩ _ _ HNE.out).trans K2.out))))))) hb)
    clear hb r1 r2 r3 r4 r5 r6 r7 a0 b0 a1 b1 a2 b2 a3 b3 a4 b4 a5 b5 a6 b6
    have r8 := cell_c K3.out 8
    have r9 := cell_c K3.out 9
    have a7 := cell_c KA3.out 7
    have b7 := cell_f KA3.out 7
    have a8 := cell_c KA3.out 8
    have b8 := cell_f KA3.out 8
    go_wp2_with fail
    refine (itoa_any d _ (HW.out.below ((HB3.out.setCell (p := ⟨A, 7, none⟩) HA.out _).setCell (p := ⟨A, 8, none⟩) HA.out _)).1 (by have := HIN.out; omega) (by have := HIN.out; omega)).mono ?_
    rintro e w4 ⟨rfl, hb⟩
    have HB4 := Lib.hid (((HB3.out.setCell (p := ⟨A, 7, none⟩) HA.out _).setCell (p := ⟨A, 8, none⟩) HA.out _).trans (hb.mono ((HB3.out.setCell (p := ⟨A, 7, none⟩) HA.out _).setCell (p := ⟨A, 8, none⟩) HA.out _).size))
    have KA4 : Hid (w4.heap[A]? = some (.cells #[.string (itoS K), .string id, .string au, .string aq, .string iss, .string me, .string ca, .string (itoS a), .string cu, .string ByteArray.empty, .string ByteArray.empty, .string ByteArray.empty] 9)) := Lib.hid (blk_later (heap_setCell_same _ A 8 _ _ _ (heap_setCell_same _ A 7 _ _ _ KA3.out)) hb)
    have K4 : Hid (w4.heap[w.heap.size]? = some (.cells #[.int .i64 K, .string id, .string au, .string aq, .string iss, .string me, .string ca, .int .i64 a, .string cu, .int .i64 d, .int .i64 c, .bool f] 57)) := Lib.hid (blk_later ((heap_setCell_other _ ⟨A, 8, none⟩ _ _ HNE.out).trans ((heap_setCell_other _ ⟨A, 7, none⟩ _ _ HNE.out).trans K3.out)) hb)
    clear hb r8 r9 a7 b7 a8 b8
    have r10 := cell_c K4.out 10
    have a9 := cell_c KA4.out 9
    have b9 := cell_f KA4.out 9
    go_wp2_with fail
    refine (itoa_any c _ (HW.out.below (HB4.out.setCell (p := ⟨A, 9, none⟩) HA.out _)).1 (by have := HIN.out; omega) (by have := HIN.out; omega)).mono ?_
    rintro e w5 ⟨rfl, hb⟩
    have HB5 := Lib.hid ((HB4.out.setCell (p := ⟨A, 9, none⟩) HA.out _).trans (hb.mono (HB4.out.setCell (p := ⟨A, 9, none⟩) HA.out _).size))
    have KA5 : Hid (w5.heap[A]? = some (.cells #[.string (itoS K), .string id, .string au, .string aq, .string iss, .string me, .string ca, .string (itoS a), .string cu, .string (itoS d), .string ByteArray.empty, .string ByteArray.empty] 9)) := Lib.hid (blk_later (heap_setCell_same _ A 9 _ _ _ KA4.out) hb)
    have K5 : Hid (w5.heap[w.heap.size]? = some (.cells #[.int .i64 K, .string id, .string au, .string aq, .string iss, .string me, .string ca, .int .i64 a, .string cu, .int .i64 d, .int .i64 c, .bool f] 57)) := Lib.hid (blk_later ((heap_setCell_other _ ⟨A, 9, none⟩ _ _ HNE.out).trans K4.out) hb)
    clear hb r10 a9 b9
    have HJ : Hid (∀ (W : World) (xs : List ByteArray), xs.length = 12 → (∀ (j : Nat) x, xs[j]? = some x → W.cell? ⟨A, 0 + j, none⟩ = some (.string x)) → A < W.heap.size → (Lib.join (xs.map (·.data.toList)) [124]).length ≤ 140737488355328 →
        Calls Tryz.prog 80 #[.slice (some ⟨A, 0, none⟩) 12 12, .string ⟨#[124]⟩] W fun e w' => e = .returned (.string ⟨(Lib.join (xs.map (·.data.toList)) [124]).toArray⟩) ∧ Below W.heap.size W w') := Lib.hid (fun W xs hl hcells hA hlen => by
      have h := Tryz.strings_Join A 0 12 xs ⟨#[124]⟩ W hcells hA (by omega) (by omega) hlen
      rw [hl] at h
      exact h)
    have HAL := Lib.hid (show A < w5.heap.size from World.block_lt_of_cell? _ _ (cell_c KA5.out 0))
    have HLEN : Hid (∀ s : ByteArray, s.size ≤ 1 → (Lib.join ([itoS K, id, au, aq, iss, me, ca, itoS a, cu, itoS d, itoS c, s].map (·.data.toList)) [124]).length ≤ 140737488355328) := Lib.hid (fun s hs => by
      have h1 := itoS_len K
      have h2 := itoS_len a
      have h3 := itoS_len d
      have h4 := itoS_len c
      have h5 := HIN.out
      have h6 := HSZ.out
      rw [List.map_cons, Lib.join_length]
      simp [Lib.lens] at *
      omega)
    cases f with
    | false =>
      have r11 := cell_c K5.out 11
      have a10 := cell_c KA5.out 10
      have b10 := cell_f KA5.out 10
      have a11 := cell_c KA5.out 11
      have b11 := cell_f KA5.out 11
      have n1 : w.heap.size ≠ A := HNE.out
      have n2 : A ≠ w.heap.size := fun h => HNE.out h.symm
      go_wp2_with fail
      refine (HJ.out _ [itoS K, id, au, aq, iss, me, ca, itoS a, cu, itoS d, itoS c, ⟨#[48]⟩] rfl (cells_xs (heap_setCell_same _ A 11 _ _ _ (heap_setCell_same _ A 10 _ _ _ KA5.out))) (by simp only [World.setCell, Array.size_modify]; exact HAL.out) (HLEN.out _ (by decide))).mono ?_
      rintro e w6 ⟨rfl, hb⟩
      have HB6 := Lib.hid (((HB5.out.setCell (p := ⟨A, 10, none⟩) HA.out _).setCell (p := ⟨A, 11, none⟩) HA.out _).trans (hb.mono ((HB5.out.setCell (p := ⟨A, 10, none⟩) HA.out _).setCell (p := ⟨A, 11, none⟩) HA.out _).size))
      clear hb r11 a10 b10 a11 b11
      go_wp2_with fail
      go_ret2
      exact ⟨by rw [HE.out, HS.out]; rfl, HB6.out⟩
    | true =>
      have r11 := cell_c K5.out 11
      have a10 := cell_c KA5.out 10
      have b10 := cell_f KA5.out 10
      have a11 := cell_c KA5.out 11
      have b11 := cell_f KA5.out 11
      have n1 : w.heap.size ≠ A := HNE.out
      have n2 : A ≠ w.heap.size := fun h => HNE.out h.symm
      go_wp2_with fail
      refine (HJ.out _ [itoS K, id, au, aq, iss, me, ca, itoS a, cu, itoS d, itoS c, ⟨#[49]⟩] rfl (cells_xs (heap_setCell_same _ A 11 _ _ _ (heap_setCell_same _ A 11 _ _ _ (heap_setCell_same _ A 10 _ _ _ KA5.out)))) (by simp only [World.setCell, Array.size_modify]; exact HAL.out) (HLEN.out _ (by decide))).mono ?_
      rintro e w6 ⟨rfl, hb⟩
      have HB6 := Lib.hid ((((HB5.out.setCell (p := ⟨A, 10, none⟩) HA.out _).setCell (p := ⟨A, 11, none⟩) HA.out _).setCell (p := ⟨A, 11, none⟩) HA.out _).trans (hb.mono (((HB5.out.setCell (p := ⟨A, 10, none⟩) HA.out _).setCell (p := ⟨A, 11, none⟩) HA.out _).setCell (p := ⟨A, 11, none⟩) HA.out _).size))
      clear hb r11 a10 b10 a11 b11
      go_wp2_with fail
      go_ret2
      exact ⟨by rw [HE.out, HS.out]; rfl, HB6.out⟩
end Go.Proofs.YthflmdgfenojcaaGreatDoor
namespace Go.Proofs.YthflmdgfenojcaaGreatDoor
set_option linter.unusedVariables false
open Go.RowKit
instance (x : ByteArray) (l : List ByteArray) : Decidable (x ∈ l) := decidable_of_iff (l.any (fun y => decide (y = x)) = true) (by simp)
theorem idsOf_succ (l : List Rec) (k : Nat) (h : k < l.length) : idsOf (l.take (k + 1)) = idsOf (l.take k) ++ [(rcAt l k).id] := by
  unfold idsOf; rw [List.take_succ_eq_append_getElem h, List.map_append, rcAt_get l k h]; rfl
end Go.Proofs.YthflmdgfenojcaaGreatDoor
namespace Go.Proofs.YthflmdgfenojcaaGreatDoor
set_option linter.unusedVariables false
open Go.RowKit
set_option maxHeartbeats 1600000 in
theorem bdec_any (n : Int) (w : World) (ht : TabW w) (h0 : -9223372036854775808 ≤ n) (h1 : n ≤ 9223372036854775807) : Calls Tryz.prog 95 #[.int .i64 n] w fun e w' => e = .returned (.string (itoS n)) ∧ Below w.heap.size w w' := by
  have HF := Lib.hid (fint_any n w ht h0 h1)
  clear ht h0 h1
  go_enter Tryz.func95, Tryz.ntmps95
  go_wp2_with fail
  refine HF.out.mono ?_
  rintro e w' ⟨rfl, hb⟩
  have HB := Lib.hid hb
  clear hb
  go_wp2_with fail
  go_ret
  exact ⟨rfl, HB.out⟩
end Go.Proofs.YthflmdgfenojcaaGreatDoor
namespace Go.Proofs.YthflmdgfenojcaaGreatDoor
set_option linter.unusedVariables false
open Go.RowKit Go.Maps
/-- The state of Check's loop behind k records: the boxed file, the names so far. -/
structure CkS (b : Bat) (A : Option Addr) (cp k : Nat) (w W : World) : Prop where
  t : W.heap[w.heap.size]? = some (.cells #[.string b.id, .string b.sd, .int .i64 b.dt, .slice A b.rs.length cp] 61)
  s : SSet W (w.heap.size + 1) (idsOf (b.rs.take k))
  be : Below w.heap.size w W
  z : ∀ j, j < k → ptL b.sd b.rs j = 0
theorem CkS.start (b : Bat) (A : Option Addr) (cp : Nat) (w : World) : CkS b A cp 0 w ((w.alloc (.cells #[.string b.id, .string b.sd, .int .i64 b.dt, .slice A b.rs.length cp] 61)).alloc (.map #[] 0)) := by
  have e : (w.alloc (.cells #[.string b.id, .string b.sd, .int .i64 b.dt, .slice A b.rs.length cp] 61)).heap.size = w.heap.size + 1 := Array.size_push _
  refine ⟨blk_later (heap_alloc_new w _) (bx _ _), ?_, (bx w _).trans ((bx _ _).mono (by simp)), fun j hj => absurd hj (Nat.not_lt_zero _)⟩
  rw [← e]; exact SSet.made _
theorem CkS.below {b : Bat} {A : Option Addr} {cp k : Nat} {w W W' : World} (h : CkS b A cp k w W) (hb : Below W.heap.size W W') : CkS b A cp k w W' :=
  ⟨blk_later h.t hb, h.s.below hb, h.be.trans (hb.mono h.be.size), h.z⟩
theorem CkS.next {b : Bat} {A : Option Addr} {cp k : Nat} {w W W' : World} (h : CkS b A cp k w W) (hk : k < b.rs.length) (hs : SSet W' (w.heap.size + 1) (idsOf (b.rs.take k) ++ [(rcAt b.rs k).id])) (hg : W.grownBy W' (some (w.heap.size + 1))) (hz : ptL b.sd b.rs k = 0) : CkS b A cp (k + 1) w W' := by
  refine ⟨?_, by rw [idsOf_succ _ _ hk]; exact hs, h.be.grown hg h.be.size (fun x hx => by cases hx; omega), fun j hj => ?_⟩
  · rw [hg.block _ (Array.getElem?_eq_some_iff.1 h.t).1 (by simp)]; exact h.t
  · rcases Nat.lt_or_ge j k with c | c
    · exact h.z j c
    · obtain rfl : j = k := by omega
      exact hz
set_option maxRecDepth 1000000 in
set_option maxHeartbeats 12800000 in
theorem bcheck_any (A : Option Addr) (cp : Nat) (b : Bat) (w : World) (hr : IsRow w A (b.rs.flatMap recF)) (hok : BatOk b) (hc : b.rs.length ≤ cp) (hm : b.rs.length ≤ 100000) : Calls Tryz.prog 47 #[batV b A cp] w (PtPost (chkB b) w) := by
  have HR := Lib.hid hr
  have HOK := Lib.hid hok.r
  have HI := Lib.hid (fun W => bident_any b.id W hok.i)
  have HN := Lib.hid (fun W => lname_any b.sd W hok.s)
  have H5 := Lib.hid (fun h => chkB_head (b := b) (headE_5 h) (by decide))
  have H14 := Lib.hid (fun h1 h2 h3 => chkB_head (b := b) (headE_14 h1 h2 h3) (by decide))
  have H0 := Lib.hid (fun h1 h2 h3 => headE_0 (id := b.id) (sd := b.sd) (dt := b.dt) h1 h2 h3)
  have H3 := Lib.hid (chkB_3 (b := b))
  have HA := Lib.hid (fun h h2 k hk h3 h4 => chkB_at (b := b) h h2 k hk h3 h4)
  have HZ := Lib.hid (chkB_ok (b := b))
  have HS0 := CkS.start b A cp w
  clear hr hok
  unfold PtPost
  generalize chkB b = CB at *
  obtain ⟨id, sd, dt, rs⟩ := b
  unfold batV
  dsimp only at *
  have HS0 := Lib.hid HS0
  cases qi : idB id with
  | false =>
    have he := Lib.hid (H5.out (fun h => by rw [qi] at h; exact absurd h.1 (by decide)))
    rw [qi] at HI
    clear H5 H14 H0 H3 HA HZ HS0 qi
    go_enter Tryz.func47, Tryz.ntmps47
    go_wp2_with fail
    refine (HI.out _).mono ?_
    rintro e w1 ⟨rfl, rfl⟩
    go_wp2_with fail
    go_ret
    exact ⟨by rw [he.out]; rfl, bx _ _⟩
  | true =>
  cases qn : nameB sd.data.toList with
  | false =>
    have he := Lib.hid (H5.out (fun h => by rw [qn] at h; exact absurd h.2 (by decide)))
    rw [qi] at HI
    rw [qn] at HN
    clear H5 H14 H0 H3 HA HZ HS0 qi qn
    go_enter Tryz.func47, Tryz.ntmps47
    go_wp2_with fail
    refine (HI.out _).mono ?_
    rintro e w1 ⟨rfl, rfl⟩
    go_wp2_with fail
    refine (HN.out _).mono ?_
    rintro e w1 ⟨rfl, rfl⟩
    go_wp2_with fail
    go_ret
    exact ⟨by rw [he.out]; rfl, bx _ _⟩
  | true =>
  have hd : dt < 0 ∨ (¬ dt < 0 ∧ 99999 < dt) ∨ (¬ dt < 0 ∧ ¬ 99999 < dt) := by omega
  have H14 := Lib.hid (H14.out qi qn)
  have H0 := Lib.hid (H0.out qi qn)
  rw [qi] at HI
  rw [qn] at HN
  clear H5 qi qn
  rcases hd with q | ⟨q, q'⟩ | ⟨q, q'⟩
  iterate 2
    · have he := Lib.hid (H14.out (by omega))
      clear H14 H0 H3 HA HZ HS0
      go_enter Tryz.func47, Tryz.ntmps47
      go_wp2_with fail
      refine (HI.out _).mono ?_
      rintro e w1 ⟨rfl, rfl⟩
      go_wp2_with fail
      refine (HN.out _).mono ?_
      rintro e w1 ⟨rfl, rfl⟩
      go_wp2_with fail
      go_ret
      exact ⟨by rw [he.out]; rfl, bx _ _⟩
  have h0 := Lib.hid (H0.out (by omega))
  have hl : 200 < rs.length ∨ rs.length ≤ 200 := by omega
  rcases hl with q2 | q2
  · have he := Lib.hid (H3.out h0.out q2)
    have q3 : (200 : Int) < (rs.length : Int) := by omega
    clear H14 H0 H3 HA HZ HS0
    go_enter Tryz.func47, Tryz.ntmps47
    go_wp2_with fail
    refine (HI.out _).mono ?_
    rintro e w1 ⟨rfl, rfl⟩
    go_wp2_with fail
    refine (HN.out _).mono ?_
    rintro e w1 ⟨rfl, rfl⟩
    go_wp2_with fail
    go_ret
    exact ⟨by rw [he.out]; rfl, bx _ _⟩
  · have q3 : ¬ (200 : Int) < (rs.length : Int) := by omega
    have HA := Lib.hid (HA.out h0.out q2)
    have HZ := Lib.hid (HZ.out h0.out q2)
    have hmm := @run_makeMap Tryz.prog
    clear H14 H0 H3
    go_enter Tryz.func47, Tryz.ntmps47
    go_wp2_with fail
    refine (HI.out _).mono ?_
    rintro e w1 ⟨rfl, rfl⟩
    go_wp2_with fail
    refine (HN.out _).mono ?_
    rintro e w1 ⟨rfl, rfl⟩
    go_wp2_with fail
    clear HI HN
    go_loopw [33] (fun i wr => ∃ k : Nat, k ≤ rs.length ∧ i = .int .i64 k ∧ Hid (CkS ⟨id, sd, dt, rs⟩ A cp k w wr)) (fun i _ => rs.length - (intOf i).toNat)
    case atStart => exact ⟨0, Nat.zero_le _, rfl, HS0⟩
    case round =>
      clear HS0
      obtain ⟨k, hk, rfl, HW⟩ := hrel
      by_cases hlt : k < rs.length
      · rcases row_rc HR.out k hlt with ⟨b, off, rfl, hcell⟩
        have HC := Lib.hid ((hcell k hlt).later HW.out.be)
        have HFT := Lib.hid (rcAt_fit HOK.out k hlt)
        have HP0 := Lib.hid (HA.out k hlt HW.out.z)
        have HP1 := Lib.hid (fun h => ptL_chk (sd := sd) (rs := rs) (k := k) h)
        have HP2 := Lib.hid (fun h h2 => ptL_aq (sd := sd) (rs := rs) (k := k) h h2)
        have HP3 := Lib.hid (fun h h2 h3 => ptL_id (sd := sd) (rs := rs) (k := k) h h2 h3)
        have HP4 := Lib.hid (fun h h2 h3 => ptL_ok (sd := sd) (rs := rs) (k := k) h h2 h3)
        have HNX := Lib.hid (fun W' W hs hg hz => (fun h : CkS ⟨id, sd, dt, rs⟩ (some ⟨b, off, none⟩) cp k w W => h.next (W' := W') hlt hs hg hz))
        dsimp only at HNX
        obtain ⟨r, hrk⟩ : ∃ r, rcAt rs k = r := ⟨_, rfl⟩
        rw [hrk] at HC HFT HP1 HP2 HP3 HP4 HNX
        have HCH := Lib.hid (fun W => chk_any r HFT.out W)
        unfold PtPost at HCH
        obtain ⟨E, hE⟩ : ∃ E, chkE r = E := ⟨_, rfl⟩
        obtain ⟨L, hL⟩ : ∃ L, idsOf (rs.take k) = L := ⟨_, rfl⟩
        have HLL : Hid (L.length < 1000000) := Lib.hid (by rw [← hL]; unfold idsOf; simp; omega)
        have HSL : Hid (∀ W, CkS ⟨id, sd, dt, rs⟩ (some ⟨b, off, none⟩) cp k w W → SSet W (w.heap.size + 1) L) := Lib.hid (fun W h => by rw [← hL]; exact h.s)
        rw [hE] at HCH HP1 HP2 HP3 HP4
        rw [hL] at HP3 HP4 HNX
        clear hE hL hrk hcell HR HA HZ
        obtain ⟨K, rid, au, aq, is, me, ca, a, cu, d, c, f⟩ := r
        have c0 := HC.out.c0
        have c1 := HC.out.c1
        have c2 := HC.out.c2
        have c3 := HC.out.c3
        have c4 := HC.out.c4
        have c5 := HC.out.c5
        have c6 := HC.out.c6
        have c7 := HC.out.c7
        have c8 := HC.out.c8
        have c9 := HC.out.c9
        have c10 := HC.out.c10
        have c11 := HC.out.c11
        unfold Rec.val Rec.cells at HCH
        dsimp only at *
        have hsz : rid.size ≤ maxLen := HFT.out.1
        have kI : (k : Int) < (rs.length : Int) := by omega
        have k0 : (0 : Int) ≤ (k : Int) := by omega
        have hwl : w.heap.size < wr.heap.size := (Array.getElem?_eq_some_iff.1 HW.out.t).1
        by_cases h0 : E = 0
        · subst h0
          by_cases haq : aq = sd
          · subst haq
            have hq := str_eq (a := aq) (b := aq) rfl
            by_cases hin : rid ∈ L
            · have hdc := decide_eq_true hin
              have HP := Lib.hid ((HP0.out (by rw [HP3.out rfl rfl hin]; decide)).trans (HP3.out rfl rfl hin))
              clear hin HP0 HP1 HP2 HP3 HP4 HNX
              go_wp2_with fail
              refine (HCH.out _).mono ?_
              rintro e w1 ⟨rfl, hb⟩
              obtain ⟨kR, hz, hb1⟩ := box1 hb
              have HW1 := Lib.hid (HW.out.below hb1)
              have a1 := cell_c kR 1
              have a3 := cell_c kR 3
              have t1 := cell_c HW1.out.t 1
              have hlk := (HSL.out _ HW1.out).look rid hsz
              rw [hdc] at hlk
              clear kR hb hb1 hdc
              simp at a1 a3 t1
              go_wp2_with fail
              go_ret
              exact ⟨by rw [HP.out]; rfl, HW1.out.be⟩
            · have hdc := decide_eq_false hin
              have HP := Lib.hid (HP4.out rfl rfl hin)
              clear hin HP0 HP1 HP2 HP3 HP4
              go_wp2_with fail
              refine (HCH.out _).mono ?_
              rintro e w1 ⟨rfl, hb⟩
              obtain ⟨kR, hz, hb1⟩ := box1 hb
              have HW1 := Lib.hid (HW.out.below hb1)
              have a1 := cell_c kR 1
              have a3 := cell_c kR 3
              have t1 := cell_c HW1.out.t 1
              have hlk := (HSL.out _ HW1.out).look rid hsz
              rw [hdc] at hlk
              obtain ⟨w2, hrun, hs2, hg2⟩ := (HSL.out _ HW1.out).put HLL.out rid hsz
              have HW2 := Lib.hid (HNX.out w2 w1 hs2 hg2 HP.out HW1.out)
              clear kR hb hb1 hdc hs2 hg2
              simp at a1 a3 t1
              go_wp2_with fail
              go_roundw
              case rel => exact ⟨k + 1, by omega, by go_num, HW2⟩
              case measure => simp [intOf]; omega
          · have hq := str_ne (a := aq) (b := sd) haq
            have HP := Lib.hid ((HP0.out (by rw [HP2.out rfl haq]; decide)).trans (HP2.out rfl haq))
            clear haq HP0 HP1 HP2 HP3 HP4 HNX
            go_wp2_with fail
            refine (HCH.out _).mono ?_
            rintro e w1 ⟨rfl, hb⟩
            obtain ⟨kR, hz, hb1⟩ := box1 hb
            have HW1 := Lib.hid (HW.out.below hb1)
            have a3 := cell_c kR 3
            have t1 := cell_c HW1.out.t 1
            clear kR hb hb1
            simp at a3 t1
            go_wp2_with fail
            go_ret
            exact ⟨by rw [HP.out]; rfl, HW1.out.be⟩
        · have heb : (E != 0) = true := by simpa using h0
          have HP := Lib.hid ((HP0.out (by rw [HP1.out h0]; exact h0)).trans (HP1.out h0))
          clear h0 HP0 HP1 HP2 HP3 HP4 HNX
          go_wp2_with fail
          refine (HCH.out _).mono ?_
          rintro e w1 ⟨rfl, hb⟩
          obtain ⟨kR, hz, hb1⟩ := box1 hb
          have HW1 := Lib.hid (HW.out.below hb1)
          clear kR hb hb1
          go_wp2_with fail
          go_ret
          exact ⟨by rw [HP.out]; rfl, HW1.out.be⟩
      · obtain rfl : k = rs.length := by omega
        have HP := Lib.hid (HZ.out HW.out.z)
        have kI : ¬ (rs.length : Int) < (rs.length : Int) := by omega
        go_wp2_with fail
        go_ret
        exact ⟨by rw [HP.out]; rfl, HW.out.be⟩
end Go.Proofs.YthflmdgfenojcaaGreatDoor
namespace Go.Proofs
theorem Tryz.lays166 : Lays.n166 Tryz.prog Tryz.lays156_ren := { Tryz.lays156 with }
def Tryz.lays167_ren : Go.Shelf.Ren := ⟨fun | 167 => 144 | 240 => 169 | 276 => 193 | n => n, fun | 31 => 22 | 9 => 9 | 3 => 3 | 4 => 4 | 0 => 0 | 20 => 20 | 72 => 138 | 76 => 168 | 70 => 136 | 37 => 80 | 75 => 167 | 127 => 173 | 164 => 209 | 5 => 5 | 80 => 140 | n => n, fun | n => n⟩
theorem Tryz.lays167 : Lays.n167 Tryz.prog Tryz.lays167_ren := {
  mixed := by kernel_rfl
  f167 := Tryz.func144.trans (congrArg some (by kernel_rfl))
  f240 := Tryz.func169.trans (congrArg some (by kernel_rfl))
  f276 := Tryz.func193.trans (congrArg some (by kernel_rfl))
  t0 := Tryz.underlying0
  a0 := Tryz.isAgg0
  z0 := Tryz.sizeOf0
  v0 := Tryz.zeroValue0
  t4 := Tryz.underlying4
  a4 := Tryz.isAgg4
  z4 := Tryz.sizeOf4
  v4 := Tryz.zeroValue4
  t5 := Tryz.underlying5
  a5 := Tryz.isAgg5
  z5 := Tryz.sizeOf5
  v5 := Tryz.zeroValue5
  t9 := Tryz.underlying9
  a9 := Tryz.isAgg9
  z9 := Tryz.sizeOf9
  v9 := Tryz.zeroValue9
  t20 := Tryz.underlying20
  a20 := Tryz.isAgg20
  z20 := Tryz.sizeOf20
  v20 := Tryz.zeroValue20
  t37 := Tryz.underlying80
  a37 := Tryz.isAgg80
  z37 := Tryz.sizeOf80
  v37 := Tryz.zeroValue80
  t70 := Tryz.underlying136
  a70 := Tryz.isAgg136
  z70 := Tryz.sizeOf136
  v70 := Tryz.zeroValue136
  t72 := Tryz.underlying138
  a72 := Tryz.isAgg138
  z72 := Tryz.sizeOf138
  v72 := Tryz.zeroValue138
  t75 := Tryz.underlying167
  a75 := Tryz.isAgg167
  z75 := Tryz.sizeOf167
  v75 := Tryz.zeroValue167
  t164 := Tryz.underlying209
  a164 := Tryz.isAgg209
  z164 := Tryz.sizeOf209
  v164 := Tryz.zeroValue209 }
theorem Tryz.Builder_Extra_167 : Builder.Extra Tryz.prog Tryz.lays167_ren := {
  sizeBuilder := by kernel_rfl
  liesBuilder := by kernel_rfl
  t5 := Tryz.underlying5
  a5 := Tryz.isAgg5
  z5 := Tryz.sizeOf5
  v5 := Tryz.zeroValue5
  infoByte := by kernel_rfl
  cellsByte := by kernel_rfl
  sizeByte := by kernel_rfl
  neB5 := by decide }
end Go.Proofs
namespace Go.Proofs.YthflmdgfenojcaaGreatDoor
set_option linter.unusedVariables false
open Go.RowKit
/-- A builder that lies at b with the bytes l, and what lies beside it. -/
def Bld (B b : Nat) (l : List UInt8) (w0 w : World) : Prop := Lib.IsBuilderF 138 5 B b (Lib.byteCells l) w ∧ Below B w0 w ∧ Lib.OthersKept 5 (some b) w0 w
def WPost (v : Value) (B b : Nat) (l : List UInt8) (w : World) (e : Ending) (w' : World) : Prop := e = .returned v ∧ Bld B b l w w'
theorem byteCells_app (l m : List UInt8) : Lib.byteCells (l ++ m) = Lib.byteCells l ++ Lib.byteCells m := by unfold Lib.byteCells; rw [List.map_append]
theorem wstr_any (B b : Nat) (l : List UInt8) (s : ByteArray) (w : World) (h : Lib.IsBuilderF 138 5 B b (Lib.byteCells l) w) (hl : l.length ≤ 100000000000) (hs : s.size ≤ 100000000000) (hB : B ≤ w.heap.size) :
    Calls Tryz.prog 133 #[.pointer (some ⟨b, 0, none⟩), .string s] w (WPost (.tuple #[.int .i64 s.size, .nilIface]) B b (l ++ s.data.toList) w) :=
  (Any.Builder_WriteString_k Tryz.lays166 Tryz.Builder_Extra_156 B b (Lib.byteCells l) s w h (by rw [Lib.byteCells_length]; omega) hB).mono fun e w' ⟨he, h1, h2, h3⟩ => ⟨he, .inr (by rw [byteCells_app]; exact h1), h2, h3⟩
theorem wbyt_any (B b : Nat) (l : List UInt8) (c : UInt8) (w : World) (h : Lib.IsBuilderF 138 5 B b (Lib.byteCells l) w) (hl : l.length ≤ 100000000000) (hB : B ≤ w.heap.size) :
    Calls Tryz.prog 144 #[.pointer (some ⟨b, 0, none⟩), .int .u8 c.toNat] w (WPost .nilIface B b (l ++ [c]) w) :=
  (Any.Builder_WriteByte_k Tryz.lays167 Tryz.Builder_Extra_167 B b (Lib.byteCells l) c.toNat w h (by rw [Lib.byteCells_length]; omega) hB).mono fun e w' ⟨he, h1, h2, h3⟩ => ⟨he, .inr (by rw [byteCells_app]; exact h1), h2, h3⟩
theorem Bld.trans {B b : Nat} {l m : List UInt8} {w0 w1 w2 : World} (h : Bld B b l w0 w1) (k : Bld B b m w1 w2) : Bld B b m w0 w2 := ⟨k.1, h.2.1.trans k.2.1, h.2.2.trans k.2.2⟩
theorem Bld.le {B b : Nat} {l : List UInt8} {w0 w1 : World} (h : Bld B b l w0 w1) (hB : B ≤ w0.heap.size) : B ≤ w1.heap.size := Nat.le_trans hB h.2.1.size
set_option maxRecDepth 1000000 in
set_option maxHeartbeats 6400000 in
theorem wline_any (B b g : Nat) (l : List UInt8) (ps : List ByteArray) (cs : Array Value) (T : TypeId) (cp : Nat) (w : World) (h : Lib.IsBuilderF 138 5 B b (Lib.byteCells l) w) (hl : l.length ≤ 10000000000) (hB : B ≤ w.heap.size)
    (hg : w.heap[g]? = some (.cells cs T)) (hT : T ≠ 5) (hgb : g ≠ b) (hcs : ∀ i, i < ps.length → cs[i]? = some (.string (strAt ps i))) (hn : ps.length ≤ 10) (hc : ps.length ≤ cp) (hsz : ∀ i, i < ps.length → (strAt ps i).size ≤ 1000000) :
    Calls Tryz.prog 94 #[.pointer (some ⟨b, 0, none⟩), .slice (some ⟨g, 0, none⟩) ps.length cp] w (WPost (.tuple #[]) B b (l ++ lineL ps) w) := by
  have HB0 : Hid (Bld B b (l ++ joinK ps 0) w w) := Lib.hid ⟨by rw [joinK_zero, List.append_nil]; exact h, Below.refl _ _, Lib.OthersKept.refl _ _ _⟩
  have HG := Lib.hid hg
  have HC := Lib.hid hcs
  have HJ : Hid (∀ k, k ≤ ps.length → (l ++ joinK ps k).length ≤ 20000000000) := Lib.hid (fun k hk => by
    have h1 := joinK_len ps 1000000 hsz k hk
    have h2 : k * (1000000 + 1) ≤ 10 * (1000000 + 1) := Nat.mul_le_mul_right _ (by omega)
    rw [List.length_append]; omega)
  have HS := Lib.hid hsz
  have HBW := Lib.hid hB
  have HT : Hid (∀ c fz, (Obj.cells cs T) ≠ .cells c 5 fz) := Lib.hid (fun c fz e => hT (by injection e))
  have HGB := Lib.hid hgb
  clear h hg hcs hsz hB hT hgb
  unfold WPost
  go_enter Tryz.func94, Tryz.ntmps94
  go_wp2_with fail
  go_loopw [8] (fun i wr => ∃ k : Nat, k ≤ ps.length ∧ i = .int .i64 k ∧ Hid (Bld B b (l ++ joinK ps k) w wr)) (fun i _ => ps.length - (intOf i).toNat)
  case atStart => exact ⟨0, Nat.zero_le _, rfl, HB0⟩
  case round =>
    clear HB0
    obtain ⟨k, hk, rfl, HW⟩ := hrel
    have HL := Lib.hid (HJ.out k hk)
    by_cases hlt : k < ps.length
    · have hcell : wr.cell? ⟨g, k, none⟩ = some (.string (strAt ps k)) := by
        rw [cell_c (HW.out.2.2 g _ HG.out (fun e => HGB.out (by injection e)) HT.out) k]; exact HC.out k hlt
      have kI : (k : Int) < (ps.length : Int) := by omega
      have k0 : (0 : Int) ≤ (k : Int) := by omega
      rcases Nat.eq_zero_or_pos k with h0 | h0
      · have hz : ¬ (0 : Int) < (k : Int) := by omega
        have HJ1 := Lib.hid (show l ++ joinK ps k ++ (strAt ps k).data.toList = l ++ joinK ps (k + 1) by rw [h0, joinK_zero, List.append_nil, joinK_one ps (by omega)])
        clear h0
        go_wp2_with fail
        refine (wstr_any B b _ (strAt ps k) _ HW.out.1 (by have := HL.out; omega) (by have := HS.out k hlt; omega) (HW.out.le HBW.out)).mono ?_
        rintro e w3 ⟨rfl, hb⟩
        have HW3 := Lib.hid (HW.out.trans hb)
        rw [HJ1.out] at HW3
        clear hb
        go_wp2_with fail
        go_roundw
        case rel => exact ⟨k + 1, by omega, by go_num, HW3⟩
        case measure => simp [intOf]; omega
      · have hz : (0 : Int) < (k : Int) := by omega
        have HJ1 := Lib.hid (show l ++ joinK ps k ++ [124] ++ (strAt ps k).data.toList = l ++ joinK ps (k + 1) by rw [joinK_succ ps k h0 hlt]; simp)
        clear h0
        have HWB := Lib.hid (wbyt_any B b (l ++ joinK ps k) 124 wr HW.out.1 (by have := HL.out; omega) (HW.out.le HBW.out))
        go_wp2_with fail
        refine HWB.out.mono ?_
        rintro e w2 ⟨rfl, hb⟩
        have HW2 := Lib.hid (HW.out.trans hb)
        clear hb
        go_wp2_with fail
        refine (wstr_any B b _ (strAt ps k) _ HW2.out.1 (by have := HL.out; rw [List.length_append, List.length_singleton]; omega) (by have := HS.out k hlt; omega) (HW2.out.le HBW.out)).mono ?_
        rintro e w3 ⟨rfl, hb⟩
        have HW3 := Lib.hid (HW2.out.trans hb)
        rw [HJ1.out] at HW3
        clear hb
        go_wp2_with fail
        go_roundw
        case rel => exact ⟨k + 1, by omega, by go_num, HW3⟩
        case measure => simp [intOf]; omega
    · obtain rfl : k = ps.length := by omega
      have HWB := Lib.hid (wbyt_any B b (l ++ joinK ps ps.length) 10 wr HW.out.1 (by have := HL.out; omega) (HW.out.le HBW.out))
      go_wp2_with fail
      refine HWB.out.mono ?_
      rintro e w2 ⟨rfl, hb⟩
      have HW2 := Lib.hid (HW.out.trans hb)
      clear hb
      go_wp2_with fail
      go_end0
      exact ⟨rfl, by unfold lineL; rw [← List.append_assoc]; exact HW2.out⟩
end Go.Proofs.YthflmdgfenojcaaGreatDoor
namespace Go.Proofs.YthflmdgfenojcaaGreatDoor
set_option linter.unusedVariables false
open Go.RowKit Go.Maps
theorem isbF_later {T e : TypeId} {B b : Nat} {bs : List Value} {w w' : World} (h : Lib.IsBuilderF T e B b bs w) (hb : Below w.heap.size w w') : Lib.IsBuilderF T e B b bs w' := by
  have key : ∀ p, Lib.BuilderAtF T e B b p bs w → Lib.BuilderAtF T e B b p bs w' := fun p ⟨h1, v, h2, h3, h4⟩ =>
    ⟨h1, v, blk_later h2 hb, h3.kept (row := none) ⟨hb.os, hb.tape, hb.output, hb.size, fun k hk _ => hb.block k hk⟩ (Classical.em _), h4⟩
  exact h.imp (key _) (key _)
/-- The boxed file and the builder with the bytes l. -/
structure EnS (b : Bat) (A : Option Addr) (cp B : Nat) (l : List UInt8) (w W : World) : Prop where
  t : W.heap[w.heap.size]? = some (.cells #[.string b.id, .string b.sd, .int .i64 b.dt, .slice A b.rs.length cp] 61)
  bl : Lib.IsBuilderF 138 5 B B (Lib.byteCells l) W
  be : Below w.heap.size w W
  lt : w.heap.size < B
  le : B < W.heap.size
section
variable {b : Bat} {A : Option Addr} {cp B : Nat} {l m : List UInt8} {w W W' X : World}
theorem EnS.below (h : EnS b A cp B l w W) (hb : Below W.heap.size W W') : EnS b A cp B l w W' :=
  ⟨blk_later h.t hb, isbF_later h.bl hb, h.be.trans (hb.mono h.be.size), h.lt, Nat.lt_of_lt_of_le h.le hb.size⟩
theorem EnS.wr (h : EnS b A cp B l w W) (k : Bld B B m W W') : EnS b A cp B m w W' :=
  ⟨(k.2.1.block _ h.lt).trans h.t, k.1, h.be.trans (k.2.1.mono (Nat.le_of_lt h.lt)), h.lt, Nat.lt_of_lt_of_le h.le k.2.1.size⟩
def EnP (b : Bat) (A : Option Addr) (cp B : Nat) (l : List UInt8) (w X : World) (e : Ending) (w' : World) : Prop := e = .returned (.tuple #[]) ∧ EnS b A cp B l w w' ∧ Lib.OthersKept 5 (some B) X w'
theorem EnS.line (h : EnS b A cp B l w X) (hl : l.length ≤ 10000000000) (ps : List ByteArray) (cs : Array Value) (hcs : ∀ i, i < ps.length → cs[i]? = some (.string (strAt ps i))) (hn : ps.length ≤ 10) (hsz : ∀ i, i < ps.length → (strAt ps i).size ≤ 1000000) :
    Calls Tryz.prog 94 #[.pointer (some ⟨B, 0, none⟩), .slice (some ⟨X.heap.size, 0, none⟩) ps.length ps.length] (X.alloc (.cells cs 9)) (EnP b A cp B (l ++ lineL ps) w X) := by
  have h2 := h.below (bx X (.cells cs 9))
  refine (wline_any B B X.heap.size l ps cs 9 ps.length _ h2.bl hl (Nat.le_of_lt h2.le) (heap_alloc_new X _) (by decide) (by have := h.le; omega) hcs hn (Nat.le_refl _) hsz).mono ?_
  rintro e w' ⟨he, hb⟩
  exact ⟨he, h2.wr hb, (((Lib.OthersKept.refl 5 (some B) X).alloc _).trans hb.2.2)⟩
theorem EnS.line2 (h : EnS b A cp B l w X) (hl : l.length ≤ 10000000000) (x y : ByteArray) (hx : x.size ≤ 1000000) (hy : y.size ≤ 1000000) :
    Calls Tryz.prog 94 #[.pointer (some ⟨B, 0, none⟩), .slice (some ⟨X.heap.size, 0, none⟩) 2 2] (X.alloc (.cells #[.string x, .string y] 9)) (EnP b A cp B (l ++ lineL [x, y]) w X) :=
  h.line hl [x, y] _ (hcs2 x y) (by simp) (hsz2 hx hy)
theorem EnS.line4 (h : EnS b A cp B l w X) (hl : l.length ≤ 10000000000) (x y z u : ByteArray) (hx : x.size ≤ 1000000) (hy : y.size ≤ 1000000) (hz : z.size ≤ 1000000) (hu : u.size ≤ 1000000) :
    Calls Tryz.prog 94 #[.pointer (some ⟨B, 0, none⟩), .slice (some ⟨X.heap.size, 0, none⟩) 4 4] (X.alloc (.cells #[.string x, .string y, .string z, .string u] 9)) (EnP b A cp B (l ++ lineL [x, y, z, u]) w X) :=
  h.line hl [x, y, z, u] _ (hcs4 x y z u) (by simp) (hsz4 hx hy hz hu)
theorem EnS.line5 (h : EnS b A cp B l w X) (hl : l.length ≤ 10000000000) (x y z u v : ByteArray) (hx : x.size ≤ 1000000) (hy : y.size ≤ 1000000) (hz : z.size ≤ 1000000) (hu : u.size ≤ 1000000) (hv : v.size ≤ 1000000) :
    Calls Tryz.prog 94 #[.pointer (some ⟨B, 0, none⟩), .slice (some ⟨X.heap.size, 0, none⟩) 5 5] (X.alloc (.cells #[.string x, .string y, .string z, .string u, .string v] 9)) (EnP b A cp B (l ++ lineL [x, y, z, u, v]) w X) :=
  h.line hl [x, y, z, u, v] _ (hcs5 x y z u v) (by simp) (hsz5 hx hy hz hu hv)
theorem EnS.row (h : EnS b A cp B l w W) : W.cell? ⟨w.heap.size, 0, none⟩ = some (.string b.id) ∧ W.cell? ⟨w.heap.size, 1, none⟩ = some (.string b.sd) ∧ W.cell? ⟨w.heap.size, 2, none⟩ = some (.int .i64 b.dt) :=
  ⟨cell_c h.t 0, cell_c h.t 1, cell_c h.t 2⟩
/-- With the totals in a block of their own. -/
structure EnT (b : Bat) (A : Option Addr) (cp B TB : Nat) (x0 x1 x2 x3 : Int) (l : List UInt8) (w W : World) : Prop where
  s : EnS b A cp B l w W
  tt : W.heap[TB]? = some (.cells #[.int .i64 x0, .int .i64 x1, .int .i64 x2, .int .i64 x3] 46)
variable {TB : Nat} {x0 x1 x2 x3 : Int}
theorem EnT.below (h : EnT b A cp B TB x0 x1 x2 x3 l w W) (hb : Below W.heap.size W W') : EnT b A cp B TB x0 x1 x2 x3 l w W' := ⟨h.s.below hb, blk_later h.tt hb⟩
theorem EnT.row (h : EnT b A cp B TB x0 x1 x2 x3 l w W) : W.cell? ⟨TB, 0, none⟩ = some (.int .i64 x0) ∧ W.cell? ⟨TB, 1, none⟩ = some (.int .i64 x1) ∧ W.cell? ⟨TB, 2, none⟩ = some (.int .i64 x2) ∧ W.cell? ⟨TB, 3, none⟩ = some (.int .i64 x3) :=
  ⟨cell_c h.tt 0, cell_c h.tt 1, cell_c h.tt 2, cell_c h.tt 3⟩
theorem EnT.wr (h : EnT b A cp B TB x0 x1 x2 x3 l w X) (hs : EnS b A cp B m w W') (ho : Lib.OthersKept 5 (some B) X W') (hne : TB ≠ B) : EnT b A cp B TB x0 x1 x2 x3 m w W' :=
  ⟨hs, ho TB _ h.tt (fun e => hne (by injection e)) (fun c fz e => by injection e with _ e; exact absurd e (by decide))⟩
end
set_option maxRecDepth 1000000 in
set_option maxHeartbeats 25600000 in
theorem benc_any (A : Option Addr) (cp : Nat) (b : Bat) (w : World) (hw : BW w) (hr : IsRow w A (b.rs.flatMap recF)) (hok : BatOk b) (hsz : ∀ x ∈ b.rs, szR x ≤ 500000) (hi : b.id.size ≤ 1000000) (hs : b.sd.size ≤ 1000000) (hc : b.rs.length ≤ cp) (hm : b.rs.length ≤ 100000) : Calls Tryz.prog 43 #[batV b A cp] w (BenPost b w) := by
  have HR := Lib.hid hr
  have HKW := Lib.hid hw
  have HCK := Lib.hid (fun W h => bcheck_any A cp b W h hok hc hm)
  unfold BenPost
  unfold PtPost batV at HCK
  unfold batV
  by_cases hE : chkB b = 0
  · have HE := Lib.hid hE
    obtain ⟨z1, z2, z3⟩ := chkB_zero hE
    obtain ⟨i1, i2, i3, i4⟩ := headE_zero z1
    rw [hE] at HCK ⊢
    have hrc : ∀ j, j < b.rs.length → chkE (rcAt b.rs j) = 0 ∧ (rcAt b.rs j).Fit ∧ szR (rcAt b.rs j) ≤ 1000000 ∧ (encS (rcAt b.rs j)).size ≤ 1000000 := fun j hj => by
      have h1 := (ptL_zero (z3 j hj)).1
      have h2 := hsz (rcAt b.rs j) (by rw [rcAt_get _ _ hj]; exact List.getElem_mem hj)
      have h3 := encS_size' h1
      exact ⟨h1, rcAt_fit hok.r j hj, by omega, by omega⟩
    have HRC := Lib.hid hrc
    have hln := bodyK_len hi hs (by omega) (fun j hj => (hrc j hj).2.2.2)
    have HLN : Hid (∀ k, k ≤ b.rs.length → (bodyK b k).length ≤ 1000000000) := Lib.hid (fun k hk => by have := hln k hk; omega)
    have HDT : Hid (0 ≤ b.dt ∧ b.dt ≤ 99999) := Lib.hid ⟨i3, i4⟩
    have HID := Lib.hid (And.intro hi hs)
    have HEN : Hid (encB b = ⟨(textL b).toArray⟩) := Lib.hid (by unfold encB; rw [if_pos hE])
    have HSM := Lib.hid (fun W h => bsum_any A cp b.rs W h hok.r hc (Nat.le_trans hm (by omega)))
    unfold SumPost totV at HSM
    have HDC := Lib.hid (deb_lt (b := b) z2)
    have HTB := Lib.hid (C7.totB_lt (cardsOf b.rs))
    have z2' : b.rs.length ≤ 200 := z2
    clear hr hw hok hsz hi hs hrc hln z1 z2 z3 i1 i2 i3 i4 hE hm
    go_enter Tryz.func43, Tryz.ntmps43
    go_wp2_with fail
    refine (HCK.out _ (HR.out.below (bx _ _))).mono ?_
    rintro e w1 ⟨rfl, hb⟩
    obtain ⟨kT, hz, hb1⟩ := box1 hb
    have HE0 : Hid (EnS b A cp w1.heap.size [] w (w1.alloc (.cells #[.pointer none, .slice none 0 0] 138))) := Lib.hid
      ⟨blk_later kT (bx _ _), Lib.IsBuilderF.of (.inl ⟨Nat.le_refl _, _, heap_alloc_new _ _, World.ownsRow_nil _ _ _ _, by simp [Value.ownBlock]⟩), hb1.trans ((bx _ _).mono hb1.size), hz, by show _ < (w1.heap.push _).size; simp⟩
    clear kT hz hb hb1 HCK
    go_wp2_with fail
    obtain ⟨W, hW⟩ : ∃ W, w1.alloc (.cells #[.pointer none, .slice none 0 0] 138) = W := ⟨_, rfl⟩
    rw [hW] at HE0 ⊢
    clear hW
    generalize w1.heap.size = B at *
    have HBW : Hid (EnS b A cp B [] w W.drew) := Lib.hid (HE0.out.below ((Below.refl _ _).drew))
    go_region_held3 (fun X => X.cell? ⟨w.heap.size, 0, none⟩ = some (.string b.id) ∧ X.cell? ⟨w.heap.size, 1, none⟩ = some (.string b.sd) ∧ X.cell? ⟨w.heap.size, 2, none⟩ = some (.int .i64 b.dt))
      (first | exact HBW.out.row | exact (HBW.out.below (bx _ _)).row)
      (first
        | (go_at_call 78; refine (itoa_any b.dt _ (HKW.out.below HBW.out.be).1.1 (by have := HDT.out; omega) (by have := HDT.out; omega)).mono ?_; rintro e w' ⟨rfl, hb⟩; have HBW := Lib.hid (HBW.out.below hb); clear hb)
        | (go_at_call 94; refine (HBW.out.line4 (by simp) ⟨#[72]⟩ b.id b.sd (itoS b.dt) (by decide) HID.out.1 HID.out.2 (Nat.le_trans (itoS_size _ (by have := HDT.out; omega)) (by omega))).mono ?_; rintro e w' ⟨rfl, hb, ho⟩; have HBW := Lib.hid hb; clear hb ho))
    have HB0 : Hid (EnS b A cp B (bodyK b 0) w w') := Lib.hid (by
      have e : bodyK b 0 = [] ++ lineL [⟨#[72]⟩, b.id, b.sd, itoS b.dt] := by unfold bodyK hdrL; simp
      rw [e]; exact HBW.out)
    clear HBW HE0
    obtain ⟨t3, ht3⟩ : ∃ v, w'.cell? ⟨w.heap.size, 3, none⟩ = some v ∧ v = .slice A b.rs.length cp := ⟨_, cell_c HB0.out.t 3, rfl⟩
    obtain ⟨ht3, rfl⟩ := ht3
    go_wp2_with fail
    go_loopw [29] (fun i wr => ∃ k : Nat, k ≤ b.rs.length ∧ i = .int .i64 k ∧ Hid (EnS b A cp B (bodyK b k) w wr)) (fun i _ => b.rs.length - (intOf i).toNat)
    case atStart => exact ⟨0, Nat.zero_le _, rfl, HB0⟩
    case round =>
      clear HB0 ht3
      obtain ⟨k, hk, rfl, HW⟩ := hrel
      have HLK := Lib.hid (HLN.out k hk)
      by_cases hlt : k < b.rs.length
      · rcases row_rc HR.out k hlt with ⟨g, off, rfl, hcell⟩
        have HC := Lib.hid ((hcell k hlt).later HW.out.be)
        obtain ⟨q1, q2, q3, q4⟩ := HRC.out k hlt
        have HENC : Hid (∀ W, KW W → Calls Tryz.prog 33 #[(rcAt b.rs k).val] W fun e w' => e = .returned (.tuple #[.string (encS (rcAt b.rs k)), .int .i64 0]) ∧ Below W.heap.size W w') := Lib.hid (fun W hW => by
          have := enc_any (rcAt b.rs k) q2 q3 W hW
          unfold EncPost at this
          unfold encV at this
          rw [q1, if_pos rfl] at this
          exact this)
        have HQ4 := Lib.hid q4
        have HNX : Hid (bodyK b (k + 1) = bodyK b k ++ lineL [⟨#[82]⟩, encS (rcAt b.rs k)]) := Lib.hid (bodyK_succ b k hlt)
        clear q1 q2 q3 q4 hcell
        generalize encS (rcAt b.rs k) = ES at *
        generalize rcAt b.rs k = r at *
        obtain ⟨K, rid, au, aq, is, me, ca, a, cu, d, c, f⟩ := r
        have c0 := HC.out.c0
        have c1 := HC.out.c1
        have c2 := HC.out.c2
        have c3 := HC.out.c3
        have c4 := HC.out.c4
        have c5 := HC.out.c5
        have c6 := HC.out.c6
        have c7 := HC.out.c7
        have c8 := HC.out.c8
        have c9 := HC.out.c9
        have c10 := HC.out.c10
        have c11 := HC.out.c11
        unfold Rec.val Rec.cells at HENC
        dsimp only at c0 c1 c2 c3 c4 c5 c6 c7 c8 c9 c10 c11 HENC
        have kI : (k : Int) < (b.rs.length : Int) := by omega
        have k0 : (0 : Int) ≤ (k : Int) := by omega
        have hBl := HW.out.le
        go_wp2_with fail
        refine (HENC.out _ (HKW.out.below (HW.out.be.trans ((bx wr _).mono HW.out.be.size))).1).mono ?_
        rintro e w1 ⟨rfl, hb⟩
        have HW1 := Lib.hid ((HW.out.below (bx wr _)).below hb)
        clear hb c0 c1 c2 c3 c4 c5 c6 c7 c8 c9 c10 c11
        go_wp2_with fail
        refine (HW1.out.line2 (by have := HLK.out; omega) ⟨#[82]⟩ ES (by decide) HQ4.out).mono ?_
        rintro e w2 ⟨rfl, hb, ho⟩
        have HW2 := Lib.hid hb
        rw [← HNX.out] at HW2
        clear hb ho
        go_wp2_with fail
        go_roundw
        case rel => exact ⟨k + 1, by omega, by go_num, HW2⟩
        case measure => simp [intOf]; omega
      · obtain rfl : k = b.rs.length := by omega
        have ht3 := cell_c HW.out.t 3
        simp at ht3
        go_wp2_with fail
        refine (HSM.out wr (HR.out.below HW.out.be)).mono ?_
        rintro e w1 ⟨rfl, hb⟩
        have HW1 := Lib.hid (HW.out.below hb)
        have HT0 : Hid (EnT b A cp B w1.heap.size b.rs.length (debS b.rs b.rs.length) (creS b.rs b.rs.length) (C7.totB (cardsOf b.rs)) (bodyK b b.rs.length) w (w1.alloc (.cells #[.int .i64 b.rs.length, .int .i64 (debS b.rs b.rs.length), .int .i64 (creS b.rs b.rs.length), .int .i64 (C7.totB (cardsOf b.rs))] 46))) := Lib.hid ⟨HW1.out.below (bx _ _), heap_alloc_new _ _⟩
        have HNE := Lib.hid (show w1.heap.size ≠ B by have := HW1.out.le; omega)
        clear hb ht3
        have HBD : Hid (bodyL b = bodyK b b.rs.length ++ lineL [⟨#[84]⟩, itoS b.rs.length, itoS (debS b.rs b.rs.length), itoS (creS b.rs b.rs.length), itoS (C7.totB (cardsOf b.rs))]) := Lib.hid rfl
        have HTX : Hid (textL b = bodyL b ++ lineL [⟨#[67]⟩, crcS (bodyL b)]) := Lib.hid rfl
        have HZ0 := Lib.hid (show (-9223372036854775808 : Int) ≤ b.rs.length ∧ (b.rs.length : Int) ≤ 9223372036854775807 by omega)
        generalize hdb : debS b.rs b.rs.length = DB at *
        generalize hcb : creS b.rs b.rs.length = CR at *
        generalize htb : C7.totB (cardsOf b.rs) = TT at *
        generalize hcr : crcS (bodyL b) = CRC at *
        have HCRC := Lib.hid hcr
        clear hdb hcb htb hcr
        have HZ1 := Lib.hid (show (-9223372036854775808 : Int) ≤ DB ∧ DB ≤ 9223372036854775807 by have := HDC.out; omega)
        have HZ2 := Lib.hid (show (-9223372036854775808 : Int) ≤ CR ∧ CR ≤ 9223372036854775807 by have := HDC.out; omega)
        have HZ3 := Lib.hid (show (-9223372036854775808 : Int) ≤ TT ∧ (TT : Int) ≤ 9223372036854775807 by have := HTB.out; omega)
        have HLB : Hid ((bodyL b).length ≤ 2000000000) := Lib.hid (by
          rw [HBD.out, List.length_append]
          have h1 := lineL_len [⟨#[84]⟩, itoS b.rs.length, itoS DB, itoS CR, itoS TT] 1000000 (hsz5 (by decide) (Nat.le_trans (itoS_size _ HZ0.out) (by omega)) (Nat.le_trans (itoS_size _ HZ1.out) (by omega)) (Nat.le_trans (itoS_size _ HZ2.out) (by omega)) (Nat.le_trans (itoS_size _ HZ3.out) (by omega)))
          have h2 := HLK.out
          have e : ([⟨#[84]⟩, itoS b.rs.length, itoS DB, itoS CR, itoS TT] : List ByteArray).length = 5 := rfl
          rw [e] at h1
          omega)
        have HC8 : Hid (CRC.size ≤ 1000000) := Lib.hid (by
          rw [← HCRC.out]
          show (text8 _).toArray.size ≤ 1000000
          rw [List.size_toArray, text8_len]; omega)
        go_wp2_with fail
        obtain ⟨W, hW⟩ : ∃ W, w1.alloc (.cells #[.int .i64 b.rs.length, .int .i64 DB, .int .i64 CR, .int .i64 TT] 46) = W := ⟨_, rfl⟩
        rw [hW] at HT0 ⊢
        clear hW HW1
        generalize w1.heap.size = TB at *
        have HBW : Hid (EnT b A cp B TB b.rs.length DB CR TT (bodyK b b.rs.length) w W.drew) := Lib.hid (HT0.out.below ((Below.refl _ _).drew))
        go_region_held3 (fun X => X.cell? ⟨TB, 0, none⟩ = some (.int .i64 b.rs.length) ∧ X.cell? ⟨TB, 1, none⟩ = some (.int .i64 DB) ∧ X.cell? ⟨TB, 2, none⟩ = some (.int .i64 CR) ∧ X.cell? ⟨TB, 3, none⟩ = some (.int .i64 TT))
          (first | exact HBW.out.row | exact (HBW.out.below (bx _ _)).row)
          (first
            | (go_at_call 78; refine (itoa_any b.rs.length _ (HKW.out.below HBW.out.s.be).1.1 HZ0.out.1 HZ0.out.2).mono ?_; rintro e w' ⟨rfl, hb⟩; have HBW := Lib.hid (HBW.out.below hb); clear hb)
            | (go_at_call 95; refine (bdec_any DB _ (HKW.out.below HBW.out.s.be).1.1 HZ1.out.1 HZ1.out.2).mono ?_; rintro e w' ⟨rfl, hb⟩; have HBW := Lib.hid (HBW.out.below hb); clear hb)
            | (go_at_call 95; refine (bdec_any CR _ (HKW.out.below HBW.out.s.be).1.1 HZ2.out.1 HZ2.out.2).mono ?_; rintro e w' ⟨rfl, hb⟩; have HBW := Lib.hid (HBW.out.below hb); clear hb)
            | (go_at_call 95; refine (bdec_any TT _ (HKW.out.below HBW.out.s.be).1.1 HZ3.out.1 HZ3.out.2).mono ?_; rintro e w' ⟨rfl, hb⟩; have HBW := Lib.hid (HBW.out.below hb); clear hb)
            | (go_at_call 94; refine (HBW.out.s.line5 (by have := HLK.out; omega) ⟨#[84]⟩ (itoS b.rs.length) (itoS DB) (itoS CR) (itoS TT) (by decide) (Nat.le_trans (itoS_size _ HZ0.out) (by omega)) (Nat.le_trans (itoS_size _ HZ1.out) (by omega)) (Nat.le_trans (itoS_size _ HZ2.out) (by omega)) (Nat.le_trans (itoS_size _ HZ3.out) (by omega))).mono ?_; rintro e w' ⟨rfl, hb, ho⟩; have HBW := Lib.hid (HBW.out.wr hb ho HNE.out); clear hb ho))
        have HB2 := Lib.hid HBW.out.s
        rw [← HBD.out] at HB2
        clear HBW HT0
        go_wp2_with fail
        refine (Tryz.Builder_String_any_k B B (bodyL b) _ HB2.out.bl (Nat.le_of_lt HB2.out.le)).mono ?_
        rintro e w3 ⟨rfl, hb⟩
        have HB3 := Lib.hid (HB2.out.wr hb)
        clear hb
        have HCC := Lib.hid (crcd_any ⟨(bodyL b).toArray⟩ w3 (HKW.out.below HB3.out.be).2 (by have := HLB.out; show (bodyL b).toArray.size ≤ maxLen; rw [List.size_toArray]; unfold maxLen; omega))
        unfold StrPost at HCC
        rw [show (⟨(bodyL b).toArray⟩ : ByteArray).data.toList = bodyL b from rfl, HCRC.out] at HCC
        go_wp2_with fail
        refine HCC.out.mono ?_
        rintro e w4 ⟨rfl, hb⟩
        have HB4 := Lib.hid (HB3.out.below hb)
        clear hb
        go_wp2_with fail
        refine (HB4.out.line2 (by have := HLB.out; omega) ⟨#[67]⟩ CRC (by decide) HC8.out).mono ?_
        rintro e w5 ⟨rfl, hb, ho⟩
        have HB5 := Lib.hid hb
        rw [← HTX.out] at HB5
        clear hb ho
        go_wp2_with fail
        refine (Tryz.Builder_String_any_k B B (textL b) _ HB5.out.bl (Nat.le_of_lt HB5.out.le)).mono ?_
        rintro e w6 ⟨rfl, hb⟩
        have HB6 := Lib.hid (HB5.out.wr hb)
        clear hb
        go_wp2_with fail
        go_ret2
        exact ⟨by rw [HEN.out]; rfl, HB6.out.be⟩
  · have HE := Lib.hid (show encB b = ⟨#[]⟩ by unfold encB; rw [if_neg hE])
    rw [HE.out]
    generalize chkB b = E at *
    have heb : (E != 0) = true := by simpa using hE
    clear hE hok hsz hi hs hw hr
    go_enter Tryz.func43, Tryz.ntmps43
    go_wp2_with fail
    refine (HCK.out _ (HR.out.below (bx _ _))).mono ?_
    rintro e w1 ⟨rfl, hb⟩
    have HB := Lib.hid (box1 hb).2.2
    clear hb
    go_wp2_with fail
    go_ret2
    exact ⟨rfl, HB.out⟩
end Go.Proofs.YthflmdgfenojcaaGreatDoor
namespace Go.Proofs.YthflmdgfenojcaaGreatDoor
set_option linter.unusedVariables false
open Go.RowKit Go.Sort
/-- A record whose texts lie in memory that there is. -/
def Rec.Rch (r : Rec) : Prop := r.id.size ≤ 140737488351232 ∧ r.au.size ≤ 140737488351232 ∧ r.aq.size ≤ 140737488351232 ∧ r.iss.size ≤ 140737488351232 ∧ r.me.size ≤ 140737488351232 ∧ r.ca.size ≤ 140737488351232 ∧ r.cu.size ≤ 140737488351232
theorem Rec.Rch.fit {r : Rec} (h : r.Rch) : r.Fit := by
  obtain ⟨h1, h2, h3, h4, h5, h6, h7⟩ := h
  have : ∀ n, n ≤ 140737488351232 → n ≤ maxLen := fun n q => by unfold maxLen; omega
  exact ⟨this _ h1, this _ h2, this _ h3, this _ h4, this _ h5, this _ h6, this _ h7⟩
set_option maxRecDepth 100000 in
set_option maxHeartbeats 3200000 in
theorem sh33_any (r : Rec) (hr : r.Rch) (w : World) : Calls Tryz.prog 107 #[r.val] w (BPost (sh33 r) w) := by
  have HS : Hid (sh33 r = decide (((((((r.id.size + r.au.size : Nat) + r.aq.size : Nat) + r.iss.size : Nat) + r.me.size : Nat) + r.ca.size : Nat) + r.cu.size : Nat) ≤ 500)) := Lib.hid rfl
  unfold BPost
  generalize sh33 r = S at *
  obtain ⟨K, id, au, aq, iss, me, ca, x, cu, d, c, f⟩ := r
  obtain ⟨h1, h2, h3, h4, h5, h6, h7⟩ := hr
  have HB := Lib.hid (bx w (.cells #[.int .i64 K, .string id, .string au, .string aq, .string iss, .string me, .string ca, .int .i64 x, .string cu, .int .i64 d, .int .i64 c, .bool f] 57))
  unfold Rec.val Rec.cells
  dsimp only at *
  by_cases hq : id.size + au.size + aq.size + iss.size + me.size + ca.size + cu.size ≤ 500
  · have HS2 := Lib.hid (show S = true by rw [HS.out]; exact decide_eq_true hq)
    have hd : decide ((id.size : Int) + (au.size : Int) + (aq.size : Int) + (iss.size : Int) + (me.size : Int) + (ca.size : Int) + (cu.size : Int) ≤ 500) = true := decide_eq_true (by omega)
    clear hq
    go_enter Tryz.func107, Tryz.ntmps107
    go_wp2_with fail
    go_ret
    exact ⟨by rw [HS2.out]; rfl, HB.out⟩
  · have HS2 := Lib.hid (show S = false by rw [HS.out]; exact decide_eq_false hq)
    have hd : decide ((id.size : Int) + (au.size : Int) + (aq.size : Int) + (iss.size : Int) + (me.size : Int) + (ca.size : Int) + (cu.size : Int) ≤ 500) = false := decide_eq_false (by omega)
    clear hq
    go_enter Tryz.func107, Tryz.ntmps107
    go_wp2_with fail
    go_ret
    exact ⟨by rw [HS2.out]; rfl, HB.out⟩
theorem few_no (l : List Rec) (k : Nat) (hk : k < l.length) (h : ¬ k < 240 ∨ sh33 (rcAt l k) = false) : fewB l = false := by
  unfold fewB
  rw [Bool.and_eq_false_iff]
  rcases h with h | h
  · exact .inl (decide_eq_false (by omega))
  · refine .inr (List.all_eq_false.2 ⟨rcAt l k, ?_, by rw [h]; decide⟩)
    rw [rcAt_get l k hk]; exact List.getElem_mem hk
theorem few_yes (l : List Rec) (h : ∀ j, j < l.length → j < 240 ∧ sh33 (rcAt l j) = true) : fewB l = true := by
  unfold fewB
  rw [Bool.and_eq_true, decide_eq_true_eq, List.all_eq_true]
  constructor
  · rcases Nat.eq_zero_or_pos l.length with q | q
    · omega
    · have := (h (l.length - 1) (by omega)).1; omega
  · intro x hx
    obtain ⟨j, hj, rfl⟩ := List.getElem_of_mem hx
    have := (h j hj).2
    rwa [rcAt_get l j hj] at this
set_option maxRecDepth 100000 in
set_option maxHeartbeats 6400000 in
theorem few_any (A : Option Addr) (cp : Nat) (l : List Rec) (w : World) (hr : IsRow w A (l.flatMap recF)) (hok : ∀ x ∈ l, x.Rch) (hm : l.length ≤ maxLen) : Calls Tryz.prog 51 #[.slice A l.length cp] w (BPost (fewB l) w) := by
  have HR := Lib.hid hr
  have HOK := Lib.hid hok
  have HNO := Lib.hid (few_no l)
  have HYE := Lib.hid (few_yes l)
  unfold BPost
  unfold maxLen at hm
  clear hr hok
  generalize fewB l = F at *
  go_enter Tryz.func51, Tryz.ntmps51
  go_wp2_with fail
  go_loopw [3] (fun i wr => ∃ k : Nat, k ≤ l.length ∧ i = .int .i64 k ∧ Hid (Below w.heap.size w wr ∧ ∀ j, j < k → j < 240 ∧ sh33 (rcAt l j) = true)) (fun i _ => l.length - (intOf i).toNat)
  case atStart => exact ⟨0, Nat.zero_le _, rfl, Lib.hid ⟨Below.refl _ _, fun j hj => absurd hj (Nat.not_lt_zero _)⟩⟩
  case round =>
    obtain ⟨k, hk, rfl, HW⟩ := hrel
    by_cases hlt : k < l.length
    · have kI : (k : Int) < (l.length : Int) := by omega
      have k0 : (0 : Int) ≤ (k : Int) := by omega
      by_cases h240 : k < 240
      case neg =>
        have h2 : (240 : Int) ≤ (k : Int) := by omega
        have hF := Lib.hid (HNO.out k hlt (.inl h240))
        clear h240
        go_wp2_with fail
        go_ret
        exact ⟨by rw [hF.out]; rfl, HW.out.1⟩
      case pos =>
      have h2 : ¬ (240 : Int) ≤ (k : Int) := by omega
      rcases row_rc HR.out k hlt with ⟨b, off, rfl, hcell⟩
      have HC := Lib.hid ((hcell k hlt).later HW.out.1)
      have hfit : (rcAt l k).Rch := by rw [rcAt_get l k hlt]; exact HOK.out _ (List.getElem_mem hlt)
      have HSH := Lib.hid (fun W => sh33_any (rcAt l k) hfit W)
      have HN2 := Lib.hid (fun h => HNO.out k hlt (.inr h))
      have HNX : Hid (sh33 (rcAt l k) = true → ∀ j, j < k + 1 → j < 240 ∧ sh33 (rcAt l j) = true) := Lib.hid (fun h j hj => by
        rcases Nat.lt_or_ge j k with c | c
        · exact HW.out.2 j c
        · obtain rfl : j = k := by omega
          exact ⟨h240, h⟩)
      unfold BPost at HSH
      clear hcell hfit h240
      generalize sh33 (rcAt l k) = S at *
      generalize rcAt l k = r at *
      obtain ⟨K, id, au, aq, is, me, ca, a, cu, d, c, f⟩ := r
      have c0 := HC.out.c0
      have c1 := HC.out.c1
      have c2 := HC.out.c2
      have c3 := HC.out.c3
      have c4 := HC.out.c4
      have c5 := HC.out.c5
      have c6 := HC.out.c6
      have c7 := HC.out.c7
      have c8 := HC.out.c8
      have c9 := HC.out.c9
      have c10 := HC.out.c10
      have c11 := HC.out.c11
      unfold Rec.val Rec.cells at HSH
      dsimp only at c0 c1 c2 c3 c4 c5 c6 c7 c8 c9 c10 c11 HSH
      cases S with
      | false =>
        have hF := Lib.hid (HN2.out rfl)
        go_wp2_with fail
        refine (HSH.out _).mono ?_
        rintro e w1 ⟨rfl, hb⟩
        have HB := Lib.hid (HW.out.1.trans (hb.mono HW.out.1.size))
        clear hb
        go_wp2_with fail
        go_ret
        exact ⟨by rw [hF.out]; rfl, HB.out⟩
      | true =>
        go_wp2_with fail
        refine (HSH.out _).mono ?_
        rintro e w1 ⟨rfl, hb⟩
        have HB := Lib.hid (HW.out.1.trans (hb.mono HW.out.1.size))
        have HX := Lib.hid (HNX.out (by trivial))
        clear hb
        go_wp2_with fail
        go_roundw
        case rel => exact ⟨k + 1, by omega, by go_num, Lib.hid ⟨HB.out, HX.out⟩⟩
        case measure => simp [intOf]; omega
    · obtain rfl : k = l.length := by omega
      have kI : ¬ (l.length : Int) < (l.length : Int) := by omega
      have hF := Lib.hid (HYE.out HW.out.2)
      go_wp2_with fail
      go_ret
      exact ⟨by rw [hF.out]; rfl, HW.out.1⟩
structure BatRch (b : Bat) : Prop where
  i : b.id.size ≤ maxLen
  s : b.sd.size ≤ maxLen
  r : ∀ x ∈ b.rs, x.Rch
theorem BatRch.ok {b : Bat} (h : BatRch b) : BatOk b := ⟨h.i, h.s, fun x hx => (h.r x hx).fit⟩
set_option maxRecDepth 100000 in
set_option maxHeartbeats 3200000 in
theorem bo_any (A : Option Addr) (cp : Nat) (b : Bat) (w : World) (hr : IsRow w A (b.rs.flatMap recF)) (hok : BatRch b) (hm : b.rs.length ≤ maxLen) : Calls Tryz.prog 41 #[batV b A cp] w (BPost (boB b) w) := by
  have HF := Lib.hid (fun W h => few_any A cp b.rs W h hok.r hm)
  have HR := Lib.hid hr
  have HB : Hid (boB b = (decide (b.id.size ≤ 500) && (decide (b.sd.size ≤ 500) && fewB b.rs))) := Lib.hid rfl
  unfold BPost at HF
  unfold BPost batV
  generalize boB b = B at *
  generalize fewB b.rs = F at *
  obtain ⟨id, sd, dt, rs⟩ := b
  have i1 := hok.i
  have i2 := hok.s
  dsimp only at *
  unfold maxLen at i1 i2 hm
  clear hr hok
  have HX := Lib.hid (bx w (.cells #[.string id, .string sd, .int .i64 dt, .slice A rs.length cp] 61))
  by_cases h1 : id.size ≤ 500
  case neg =>
    have hB := Lib.hid (show B = false by rw [HB.out, decide_eq_false h1]; rfl)
    have h1I : ¬ (id.size : Int) ≤ 500 := by omega
    clear h1 HB
    go_enter Tryz.func41, Tryz.ntmps41
    go_wp2_with fail
    go_ret
    exact ⟨by rw [hB.out]; rfl, HX.out⟩
  case pos =>
  have h1I : (id.size : Int) ≤ 500 := by omega
  by_cases h2 : sd.size ≤ 500
  case neg =>
    have hB := Lib.hid (show B = false by rw [HB.out, decide_eq_false h2]; simp)
    have h2I : ¬ (sd.size : Int) ≤ 500 := by omega
    clear h1 h2 HB
    go_enter Tryz.func41, Tryz.ntmps41
    go_wp2_with fail
    go_ret
    exact ⟨by rw [hB.out]; rfl, HX.out⟩
  case pos =>
  have h2I : (sd.size : Int) ≤ 500 := by omega
  have hB := Lib.hid (show B = F by rw [HB.out, decide_eq_true h1, decide_eq_true h2]; simp)
  clear h1 h2 HB
  go_enter Tryz.func41, Tryz.ntmps41
  go_wp2_with fail
  refine (HF.out _ (HR.out.below HX.out)).mono ?_
  rintro e w1 ⟨rfl, hb⟩
  have HB := Lib.hid (HX.out.trans (hb.mono HX.out.size))
  clear hb
  go_wp2_with fail
  go_ret
  exact ⟨by rw [hB.out]; rfl, HB.out⟩
set_option maxRecDepth 100000 in
set_option maxHeartbeats 6400000 in
theorem same_any (A B : Option Addr) (cp cq : Nat) (b : Bat) (w : World) (hA : IsRow w A (b.rs.flatMap recF)) (hB : IsRow w B (b.rs.flatMap recF)) (hm : b.rs.length ≤ maxLen) : Calls Tryz.prog 50 #[batV b A cp, batV b B cq] w (BPost true w) := by
  have HA := Lib.hid hA
  have HB := Lib.hid hB
  unfold BPost batV
  obtain ⟨id, sd, dt, rs⟩ := b
  dsimp only at *
  unfold maxLen at hm
  clear hA hB
  have q1 := (str_eq (rfl : id = id)).1
  have q2 := (str_eq (rfl : sd = sd)).1
  go_enter Tryz.func50, Tryz.ntmps50
  go_wp2_with fail
  have HW0 := Lib.hid ((bx w (.cells #[.string id, .string sd, .int .i64 dt, .slice A rs.length cp] 61)).trans ((bx (w.alloc (.cells #[.string id, .string sd, .int .i64 dt, .slice A rs.length cp] 61)) (.cells #[.string id, .string sd, .int .i64 dt, .slice B rs.length cq] 61)).mono (bx w _).size))
  have HK0 := Lib.hid (blk_later (heap_alloc_new w (.cells #[.string id, .string sd, .int .i64 dt, .slice A rs.length cp] 61)) (bx (w.alloc (.cells #[.string id, .string sd, .int .i64 dt, .slice A rs.length cp] 61)) (.cells #[.string id, .string sd, .int .i64 dt, .slice B rs.length cq] 61)))
  have HK1 := Lib.hid (heap_alloc2_new w (.cells #[.string id, .string sd, .int .i64 dt, .slice A rs.length cp] 61) (.cells #[.string id, .string sd, .int .i64 dt, .slice B rs.length cq] 61))
  go_loopw [5] (fun i wr => ∃ k : Nat, k ≤ rs.length ∧ i = .int .i64 k ∧ Hid (Below w.heap.size w wr ∧ wr.heap[w.heap.size]? = some (.cells #[.string id, .string sd, .int .i64 dt, .slice A rs.length cp] 61) ∧ wr.heap[w.heap.size + 1]? = some (.cells #[.string id, .string sd, .int .i64 dt, .slice B rs.length cq] 61))) (fun i _ => rs.length - (intOf i).toNat)
  case atStart => exact ⟨0, Nat.zero_le _, rfl, Lib.hid ⟨HW0.out, HK0.out, HK1.out⟩⟩
  case round =>
    clear HW0 HK0 HK1 q1 q2
    obtain ⟨k, hk, rfl, HW⟩ := hrel
    have a3 : wr.cell? ⟨w.heap.size, 3, none⟩ = some (.slice A rs.length cp) := cell_c HW.out.2.1 3
    have b3 : wr.cell? ⟨w.heap.size + 1, 3, none⟩ = some (.slice B rs.length cq) := cell_c HW.out.2.2 3
    by_cases hlt : k < rs.length
    · have kI : (k : Int) < (rs.length : Int) := by omega
      have k0 : (0 : Int) ≤ (k : Int) := by omega
      rcases row_rc HA.out k hlt with ⟨b, off, rfl, hcell⟩
      rcases row_rc HB.out k hlt with ⟨b', off', rfl, hcell'⟩
      have HC := Lib.hid ((hcell k hlt).later HW.out.1)
      have HD := Lib.hid ((hcell' k hlt).later HW.out.1)
      have hne := fun W => neq_same (rcAt rs k) W
      clear hcell hcell'
      generalize rcAt rs k = r at *
      obtain ⟨K, id, au, aq, is, me, ca, a, cu, d, c, f⟩ := r
      have c0 := HC.out.c0
      have c1 := HC.out.c1
      have c2 := HC.out.c2
      have c3 := HC.out.c3
      have c4 := HC.out.c4
      have c5 := HC.out.c5
      have c6 := HC.out.c6
      have c7 := HC.out.c7
      have c8 := HC.out.c8
      have c9 := HC.out.c9
      have c10 := HC.out.c10
      have c11 := HC.out.c11
      have d0 := HD.out.c0
      have d1 := HD.out.c1
      have d2 := HD.out.c2
      have d3 := HD.out.c3
      have d4 := HD.out.c4
      have d5 := HD.out.c5
      have d6 := HD.out.c6
      have d7 := HD.out.c7
      have d8 := HD.out.c8
      have d9 := HD.out.c9
      have d10 := HD.out.c10
      have d11 := HD.out.c11
      unfold Rec.val Rec.cells at hne
      dsimp only at c0 c1 c2 c3 c4 c5 c6 c7 c8 c9 c10 c11 d0 d1 d2 d3 d4 d5 d6 d7 d8 d9 d10 d11 hne
      go_wp2_with fail
      go_quiet (fail)
      rename Nat => nq
      have HX := Lib.hid (dNb HW.out.1 nq)
      have HX2 : Hid ((wr.drewN nq).heap[w.heap.size]? = some (.cells #[.string _, .string sd, .int .i64 dt, .slice (some ⟨b, off, none⟩) rs.length cp] 61)) := Lib.hid HW.out.2.1
      have HX3 : Hid ((wr.drewN nq).heap[w.heap.size + 1]? = some (.cells #[.string _, .string sd, .int .i64 dt, .slice (some ⟨b', off', none⟩) rs.length cq] 61)) := Lib.hid HW.out.2.2
      go_wp2_with fail
      go_roundw
      case rel => exact ⟨k + 1, by omega, by go_num, Lib.hid ⟨HX.out, HX2.out, HX3.out⟩⟩
      case measure => simp [intOf]; omega
    · obtain rfl : k = rs.length := by omega
      have kI : ¬ (rs.length : Int) < (rs.length : Int) := by omega
      go_wp2_with fail
      go_ret
      exact ⟨rfl, HW.out.1⟩
end Go.Proofs.YthflmdgfenojcaaGreatDoor
namespace Go.Proofs.YthflmdgfenojcaaGreatDoor
set_option linter.unusedVariables false
open Go.RowKit Go.Sort Go.Maps
theorem ito0 : itoS 0 = ⟨#[48]⟩ := by simp [itoS, Lib.itoa, Lib.decDigits]
theorem ito20 : itoS 20 = ⟨#[50, 48]⟩ := by simp [itoS, Lib.itoa, Lib.decDigits]
theorem body_b0 : bodyL b0 = [72, 124, 70, 50, 48, 45, 49, 124, 115, 104, 111, 112, 124, 50, 48, 10, 84, 124, 48, 124, 48, 124, 48, 124, 48, 10] := by
  have e1 : (C7.totB (cardsOf b0.rs) : Int) = 0 := rfl
  have e2 : debS b0.rs b0.rs.length = 0 := rfl
  have e3 : creS b0.rs b0.rs.length = 0 := rfl
  have e4 : (b0.rs.length : Int) = 0 := rfl
  have e5 : b0.dt = 20 := rfl
  unfold bodyL bodyK hdrL trlL
  rw [e1, e2, e3, e4, e5, ito0, ito20]
  rfl
theorem chk_b0 : chkB b0 = 0 := by kernel_rfl
theorem enc_b0 : (encB b0).data.toList = [72, 124, 70, 50, 48, 45, 49, 124, 115, 104, 111, 112, 124, 50, 48, 10, 84, 124, 48, 124, 48, 124, 48, 124, 48, 10, 67, 124] ++ (text8 (C7.crcOf (bodyL b0)) ++ [10]) := by
  rw [enc_data chk_b0, textL, chkL_form]
  conv => lhs; arg 1; rw [body_b0]
  rfl
theorem enc_b0_size : (encB b0).size = 37 := by
  have h := congrArg List.length enc_b0
  rw [List.length_append, List.length_append, text8_len] at h
  exact h
theorem enc_b0_pref : Lib.hasPrefix (encB b0).data.toList [72, 124, 70, 50, 48, 45, 49, 124, 115, 104, 111, 112, 124, 50, 48, 10, 84, 124, 48, 124, 48, 124, 48, 124, 48, 10, 67, 124] = true := by
  unfold Lib.hasPrefix
  rw [List.isPrefixOf_iff_prefix, enc_b0]
  exact ⟨_, rfl⟩
def DceP (b : Bat) (w : World) (e : Ending) (w' : World) : Prop :=
  ∃ A c A' c', e = .returned (.tuple #[.agg #[.string b.id, .string b.sd, .int .i64 b.dt, .slice A b.rs.length c], .slice A' 0 c', .int .i64 0]) ∧ IsRow w' A (b.rs.flatMap recF) ∧ b.rs.length ≤ c ∧ Below w.heap.size w w'
/-- What was written is read. -/
theorem dce_any (b : Bat) (w : World) (hw : BW w) (h : chkB b = 0) (hs : (encB b).size ≤ 1000000) : Calls Tryz.prog 49 #[.string (encB b)] w (DceP b w) := by
  obtain ⟨h1, h2, h3⟩ := dec_of_enc h
  refine (bdc_any (encB b) w hw hs).mono ?_
  rintro e w' ⟨v8, v9, rfl, o8, o9, hb⟩
  rw [h2] at o8
  rw [h3] at o9
  obtain ⟨A, c, rfl, hr, hc⟩ := own_form o8
  obtain ⟨A', c', rfl, hr', hc'⟩ := own_form o9
  exact ⟨A, c, A', c', by rw [h1, h2]; rfl, hr, hc, hb⟩
set_option maxRecDepth 100000 in
set_option maxHeartbeats 12800000 in
theorem awb_any (w : World) (hw : BW w) : Calls Tryz.prog 42 #[] w fun e w' => e = .returned (.bool true) ∧ Below w.heap.size w w' := by
  have HKW := Lib.hid hw
  have HEN : Hid (∀ W, BW W → Calls Tryz.prog 43 #[batV b0 none 0] W (BenPost b0 W)) := Lib.hid (fun W hW => benc_any none 0 b0 W hW (.inl rfl) ⟨by decide, by decide, fun x hx => by cases hx⟩ (fun x hx => by cases hx) (by decide) (by decide) (by decide) (by decide))
  have HDC := Lib.hid (fun W hW => dce_any b0 W hW chk_b0 (by rw [enc_b0_size]; omega))
  have HSA := Lib.hid (fun A c W h => same_any none A 0 c b0 W (.inl rfl) h (by decide))
  have HPF := Lib.hid (fun W => Tryz.strings_HasPrefix (encB b0) ⟨#[72, 124, 70, 50, 48, 45, 49, 124, 115, 104, 111, 112, 124, 50, 48, 10, 84, 124, 48, 124, 48, 124, 48, 124, 48, 10, 67, 124]⟩ W)
  rw [show (⟨#[72, 124, 70, 50, 48, 45, 49, 124, 115, 104, 111, 112, 124, 50, 48, 10, 84, 124, 48, 124, 48, 124, 48, 124, 48, 10, 67, 124]⟩ : ByteArray).data.toList = [72, 124, 70, 50, 48, 45, 49, 124, 115, 104, 111, 112, 124, 50, 48, 10, 84, 124, 48, 124, 48, 124, 48, 124, 48, 10, 67, 124] from rfl, enc_b0_pref] at HPF
  have hsz := enc_b0_size
  unfold BenPost batV at HEN
  rw [chk_b0] at HEN
  unfold DceP at HDC
  unfold BPost batV at HSA
  generalize encB b0 = S at *
  unfold b0 at HEN HDC HSA
  dsimp only [List.length_nil] at HEN HDC HSA
  clear hw
  have HK0 := Lib.hid (heap_alloc_new w (.cells #[.string ⟨#[70, 50, 48, 45, 49]⟩, .string ⟨#[115, 104, 111, 112]⟩, .int .i64 20, .slice none 0 0] 61))
  go_enter Tryz.func42, Tryz.ntmps42
  go_wp2_with fail
  refine (HEN.out _ (HKW.out.below (bx _ _))).mono ?_
  rintro e w1 ⟨rfl, hb⟩
  have HB := Lib.hid ((bx w (.cells #[.string ⟨#[70, 50, 48, 45, 49]⟩, .string ⟨#[115, 104, 111, 112]⟩, .int .i64 20, .slice none 0 0] 61)).trans (hb.mono (bx w _).size))
  have HK := Lib.hid (blk_later HK0.out hb)
  clear hb HK0
  go_wp2_with fail
  refine (HDC.out _ (HKW.out.below HB.out)).mono ?_
  rintro e w2 ⟨A, c, A', c', rfl, hr, hc, hb⟩
  have HB := Lib.hid (HB.out.trans (hb.mono HB.out.size))
  have HK := Lib.hid (blk_later HK.out hb)
  have HR := Lib.hid hr
  clear hb hr hc
  have HX := Lib.hid (bx w2 (.cells #[.string ⟨#[70, 50, 48, 45, 49]⟩, .string ⟨#[115, 104, 111, 112]⟩, .int .i64 20, .slice A 0 c] 61))
  have HB2 := Lib.hid (HB.out.trans (HX.out.mono HB.out.size))
  have k0 := cell_c (blk_later HK.out HX.out) 0
  have k1 := cell_c (blk_later HK.out HX.out) 1
  have k2 := cell_c (blk_later HK.out HX.out) 2
  have k3 := cell_c (blk_later HK.out HX.out) 3
  simp at k0 k1 k2 k3
  go_wp2_with fail
  refine (HPF.out _).mono ?_
  rintro e w3 ⟨rfl, rfl⟩
  go_wp2_with fail
  refine (HSA.out A c _ (HR.out.below HX.out)).mono ?_
  rintro e w4 ⟨rfl, hb⟩
  have HB3 := Lib.hid (HB2.out.trans (hb.mono HB2.out.size))
  clear hb
  go_wp2_with fail
  go_ret
  exact ⟨rfl, HB3.out⟩
end Go.Proofs.YthflmdgfenojcaaGreatDoor
namespace Go.Proofs.YthflmdgfenojcaaGreatDoor
set_option linter.unusedVariables false
open Go.RowKit Go.Sort Go.Maps
def BytesAt (w : World) (b : Nat) (l : List UInt8) : Prop := ∀ j, j < l.length → w.cell? ⟨b, j, none⟩ = some (.int .u8 ((l.getD j 0).toNat : Int)) ∧ w.frozen? ⟨b, j, none⟩ = false
theorem BytesAt.set {w : World} {b : Nat} {l : List UInt8} (h : BytesAt w b l) (i : Nat) (hi : i < l.length) (x : UInt8) : BytesAt (w.setCell ⟨b, i, none⟩ (.int .u8 (x.toNat : Int))) b (l.set i x) := by
  intro j hj
  have hj' : j < l.length := by simpa using hj
  obtain ⟨h1, h2⟩ := h j hj'
  refine ⟨?_, by rw [World.frozen?_setCell]; exact h2⟩
  by_cases hij : i = j
  · subst hij
    rw [World.cell?_setCell_same _ _ _ h1]
    simp [List.getD, hi]
  · rw [World.cell?_setCell_other _ _ _ _ (fun e => hij (congrArg Addr.off e)), h1]
    simp [List.getD, hij]
end Go.Proofs.YthflmdgfenojcaaGreatDoor
namespace Go.Proofs.YthflmdgfenojcaaGreatDoor
set_option linter.unusedVariables false
open Go.RowKit Go.ChangeShapes Go.WideShapes
theorem cells25 : Tryz.prog.cellsOf 57 = 12 := by kernel_rfl
end Go.Proofs.YthflmdgfenojcaaGreatDoor
namespace Go.Proofs.YthflmdgfenojcaaGreatDoor
set_option linter.unusedVariables false
open Go.RowKit
section
variable {w w' : World} {B B' size n : Nat} {A : Option Addr} {xs : List Value}
theorem Reads.more (h : Reads w B size A n xs) (hB : B ≤ B') : Reads w B' size A n xs :=
  ⟨h.1, fun hn => by
    obtain ⟨ad, e, hb, hc⟩ := h.2 hn
    exact ⟨ad, e, by omega, hc⟩⟩
theorem Reads.below (h : Reads w B size A n xs) (hb : Below B w w') : Reads w' B size A n xs := h.keep fun _ hp => hb.cell hp
theorem Reads.drew (h : Reads w B size A n xs) : Reads w.drew B size A n xs := h
theorem Reads.drewN (h : Reads w B size A n xs) (k : Nat) : Reads (w.drewN k) B size A n xs := h
theorem Reads.setCell (h : Reads w B size A n xs) {p : Addr} (hB : B ≤ p.block) (u : Value) : Reads (w.setCell p u) B size A n xs :=
  h.keep fun q hq => World.cell?_setCell_other w p q u (fun e => by subst e; omega)
theorem Reads.grown (h : Reads w B size A n xs) {row : Option Nat} (hg : w.grownBy w' row) (hB : B ≤ w.heap.size) (hr : ∀ g, row = some g → B ≤ g) : Reads w' B size A n xs :=
  h.keep fun p hp => World.cell?_of_block (hg.block p.block (by omega) (fun e => by have := hr _ e.symm; omega))
end
end Go.Proofs.YthflmdgfenojcaaGreatDoor
namespace Go.Proofs.YthflmdgfenojcaaGreatDoor
set_option linter.unusedVariables false
open Go.RowKit Go.Sort Go.Maps
theorem rows_len (l : List Rec) : (l.flatMap recF).length = l.length * 12 := by
  induction l with
  | nil => rfl
  | cons x l ih =>
    rw [List.flatMap_cons, List.length_append, ih, List.length_cons]
    have : (recF x).length = 12 := rfl
    omega
theorem reads_row {W : World} {A : Option Addr} {l : List Rec} (h : IsRow W A (l.flatMap recF)) : Reads W W.heap.size 12 A l.length (l.flatMap recF) := by
  refine ⟨rows_len l, fun h0 => ?_⟩
  rcases h with h | ⟨b, off, rfl, h⟩
  · rw [rows_len] at h; omega
  · have hadd : ∀ j, (⟨b, off, none⟩ : Addr).add j = ⟨b, off + j, none⟩ := fun j => by unfold Addr.add; split <;> simp_all
    refine ⟨_, rfl, ?_, fun j u hj => by rw [hadd]; exact h j u hj⟩
    have h1 := h 0 _ (show (l.flatMap recF)[0]? = some ((l.flatMap recF)[0]'(by rw [rows_len]; omega)) from List.getElem?_eq_getElem _)
    exact World.block_lt_of_cell? W _ h1
end Go.Proofs.YthflmdgfenojcaaGreatDoor
namespace Go.Proofs.YthflmdgfenojcaaGreatDoor
set_option linter.unusedVariables false
open Go.RowKit Go.ChangeShapes Go.WideShapes Go.Deep Go.Joins
set_option maxRecDepth 100000 in
theorem rec_readW {H : Type} {enc : TypeId × Value → H} {W : World} (cs : List Value) (m : Nat) (y) (hl : cs.length = 12) (h : DataW.trod enc Tryz.prog W 0 (fun _ => true) true m 57 cs = some y) (hw : ∀ k ∈ y.1.weights Tryz.prog 57, k ≤ reachBytes) :
    ∃ r : Rec, cs = r.cells.toList ∧ r.Rch ∧ (Lit.int .i64 r.k).wf = true ∧ (Lit.int .i64 r.a).wf = true ∧ (Lit.int .i64 r.d).wf = true ∧ (Lit.int .i64 r.c).wf = true := by
  match cs, hl with
  | [c0, c1, c2, c3, c4, c5, c6, c7, c8, c9, c10, c11], _ =>
    obtain ⟨xs, n, _, rfl, hxl, hlen, hf⟩ := DataW.trod_struct Tryz.underlying57 h
    match xs, hlen with
    | [y0, y1, y2, y3, y4, y5, y6, y7, y8, y9, y10], _ =>
      have k9 : Tryz.prog.cellsOf 9 = 1 := by kernel_rfl
      have k2 : Tryz.prog.cellsOf 2 = 1 := by kernel_rfl
      have k3 : Tryz.prog.cellsOf 3 = 1 := by kernel_rfl
      have k4 : Tryz.prog.cellsOf 4 = 1 := by kernel_rfl
      have k23 : Tryz.prog.cellsOf 55 = 2 := by kernel_rfl
      obtain ⟨s0, e0, x0, w0⟩ := DataW.trod_int Tryz.underlying3 (show DataW.trod enc Tryz.prog W 0 (fun _ => true) true n 3 [c0] = some y0 by simpa [k3] using hf 0 _ rfl)
      obtain ⟨s1, e1, x1, w1⟩ := DataW.trod_string Tryz.underlying9 (show DataW.trod enc Tryz.prog W 0 (fun _ => true) true n 9 [c1] = some y1 by simpa [k9] using hf 1 _ rfl)
      obtain ⟨s2, e2, x2, w2⟩ := DataW.trod_string Tryz.underlying9 (show DataW.trod enc Tryz.prog W 0 (fun _ => true) true n 9 [c2] = some y2 by simpa [k9] using hf 2 _ rfl)
      obtain ⟨s3, e3, x3, w3⟩ := DataW.trod_string Tryz.underlying9 (show DataW.trod enc Tryz.prog W 0 (fun _ => true) true n 9 [c3] = some y3 by simpa [k9] using hf 3 _ rfl)
      obtain ⟨s4, e4, x4, w4⟩ := DataW.trod_string Tryz.underlying9 (show DataW.trod enc Tryz.prog W 0 (fun _ => true) true n 9 [c4] = some y4 by simpa [k9] using hf 4 _ rfl)
      obtain ⟨s5, e5, x5, w5⟩ := DataW.trod_string Tryz.underlying9 (show DataW.trod enc Tryz.prog W 0 (fun _ => true) true n 9 [c5] = some y5 by simpa [k9] using hf 5 _ rfl)
      obtain ⟨s6, e6, x6, w6⟩ := DataW.trod_string Tryz.underlying9 (show DataW.trod enc Tryz.prog W 0 (fun _ => true) true n 9 [c6] = some y6 by simpa [k9] using hf 6 _ rfl)
      obtain ⟨z0, z1, m', xz, _, g0, g1⟩ := trod_struct2 Tryz.underlying55 (show DataW.trod enc Tryz.prog W 0 (fun _ => true) true n 55 [c7, c8] = some y7 by simpa [k23] using hf 7 _ rfl)
      obtain ⟨s7, e7, x7, w7⟩ := DataW.trod_int Tryz.underlying2 (show DataW.trod enc Tryz.prog W 0 (fun _ => true) true m' 2 [c7] = some z0 by simpa [k2] using g0)
      obtain ⟨s8, e8, x8, w8⟩ := DataW.trod_string Tryz.underlying9 (show DataW.trod enc Tryz.prog W 0 (fun _ => true) true m' 9 [c8] = some z1 by simpa [k9] using g1)
      obtain ⟨s9, e9, x9, w9⟩ := DataW.trod_int Tryz.underlying3 (show DataW.trod enc Tryz.prog W 0 (fun _ => true) true n 3 [c9] = some y8 by simpa [k3] using hf 8 _ rfl)
      obtain ⟨s10, e10, x10, w10⟩ := DataW.trod_int Tryz.underlying3 (show DataW.trod enc Tryz.prog W 0 (fun _ => true) true n 3 [c10] = some y9 by simpa [k3] using hf 9 _ rfl)
      obtain ⟨s11, e11, x11⟩ := DataW.trod_bool Tryz.underlying4 (show DataW.trod enc Tryz.prog W 0 (fun _ => true) true n 4 [c11] = some y10 by simpa [k4] using hf 10 _ rfl)
      injection e0 with e0; injection e1 with e1; injection e2 with e2; injection e3 with e3; injection e4 with e4; injection e5 with e5; injection e6 with e6; injection e7 with e7; injection e8 with e8; injection e9 with e9; injection e10 with e10; injection e11 with e11
      subst e0 e1 e2 e3 e4 e5 e6 e7 e8 e9 e10 e11
      subst x0 x1 x2 x3 x4 x5 x6 xz x7 x8 x9 x10 x11
      have hW := hw
      simp [DataW.weights, Tryz.underlying57, Tryz.underlying55, DataW.weightsEach] at hW
      obtain ⟨g1, g2, g3, g4, g5, g6, g8⟩ := hW
      unfold reachBytes at g1 g2 g3 g4 g5 g6 g8
      exact ⟨⟨s0, s1, s2, s3, s4, s5, s6, s7, s8, s9, s10, s11⟩, rfl, ⟨by omega, by omega, by omega, by omega, by omega, by omega, by omega⟩, w0, w7, w9, w10⟩
theorem recs_open {H : Type} {enc : TypeId × Value → H} {W : World} {a : Option Addr} {len cap : Nat} {d : DataW H} {p : List MemPlace} (h : DataW.Trod enc Tryz.prog W 0 (fun _ => true) true 34 (.slice a len cap) d p) (hw : ∀ k ∈ d.weights Tryz.prog 34, k ≤ reachBytes) :
    ∃ l : List Rec, l.length = len ∧ IsRow W a (l.flatMap recF) ∧ (∀ x ∈ l, x.Rch) ∧ len ≤ cap ∧ (a = none → cap = 0) ∧ cap ≤ maxLen :=
  slice_openW recF (fun x => x.Rch) 12 Tryz.underlying34 cells25 (fun cs m y hl hy hk => by
    obtain ⟨r, h1, h2, _⟩ := rec_readW cs m y hl hy hk
    exact ⟨r, h1, h2⟩) h hw
end Go.Proofs.YthflmdgfenojcaaGreatDoor
namespace Go.Proofs.YthflmdgfenojcaaGreatDoor
set_option linter.unusedVariables false
open Go.RowKit Go.ChangeShapes Go.WideShapes Go.Deep Go.Joins
/-- A file as it is handed in. -/
structure BArg where
  b : Bat
  A : Option Addr
  cp : Nat
def BArg.cells (x : BArg) : List Value := [.string x.b.id, .string x.b.sd, .int .i64 x.b.dt, .slice x.A x.b.rs.length x.cp]
def BArg.val (x : BArg) : Value := batV x.b x.A x.cp
structure BOk (w : World) (x : BArg) : Prop where
  r : IsRow w x.A (x.b.rs.flatMap recF)
  k : BatRch x.b
  c : x.b.rs.length ≤ x.cp
  m : x.cp ≤ maxLen
  d : (Lit.int .i64 x.b.dt).wf = true
theorem cells61 : Tryz.prog.cellsOf 61 = 4 := by kernel_rfl
set_option maxRecDepth 100000 in
theorem bat_read {H : Type} {enc : TypeId × Value → H} {W : World} (cs : List Value) (m : Nat) (y) (hl : cs.length = 4) (h : DataW.trod enc Tryz.prog W 0 (fun _ => true) true m 61 cs = some y) (hw : ∀ k ∈ y.1.weights Tryz.prog 61, k ≤ reachBytes) :
    ∃ x : BArg, cs = x.cells ∧ BOk W x := by
  match cs, hl with
  | [c0, c1, c2, c3], _ =>
    obtain ⟨y0, y1, y2, y3, n, xy, _, h0, h1, h2, h3⟩ := trod_struct4 Tryz.underlying61 h
    have k9 : Tryz.prog.cellsOf 9 = 1 := by kernel_rfl
    have k3 : Tryz.prog.cellsOf 3 = 1 := by kernel_rfl
    have k34 : Tryz.prog.cellsOf 34 = 1 := by kernel_rfl
    obtain ⟨s0, e0, x0, w0⟩ := DataW.trod_string Tryz.underlying9 (show DataW.trod enc Tryz.prog W 0 (fun _ => true) true n 9 [c0] = some y0 by simpa [k9] using h0)
    obtain ⟨s1, e1, x1, w1⟩ := DataW.trod_string Tryz.underlying9 (show DataW.trod enc Tryz.prog W 0 (fun _ => true) true n 9 [c1] = some y1 by simpa [k9] using h1)
    obtain ⟨s2, e2, x2, w2⟩ := DataW.trod_int Tryz.underlying3 (show DataW.trod enc Tryz.prog W 0 (fun _ => true) true n 3 [c2] = some y2 by simpa [k3] using h2)
    have h3' : DataW.trod enc Tryz.prog W 0 (fun _ => true) true n 34 [c3] = some y3 := by simpa [k34] using h3
    have hw3 : ∀ k ∈ y3.1.weights Tryz.prog 34, k ≤ reachBytes := fun k hk => hw k (by
      rw [xy]
      simp only [DataW.weights, Tryz.underlying61]
      exact DataW.weights_mem_each (j := 3) (t := 34) (d := y3.1) rfl rfl k hk)
    injection e0 with e0; injection e1 with e1; injection e2 with e2
    subst e0 e1 e2
    have hsl : ∃ a len cap, c3 = .slice a len cap := by
      rcases open_slice Tryz.underlying34 h3' with ⟨hcs, _⟩ | ⟨a, ln, cp, _, _, _, _, hcs, _⟩
      · injection hcs with hcs; exact ⟨_, _, _, hcs⟩
      · injection hcs with hcs; exact ⟨_, _, _, hcs⟩
    obtain ⟨a, len, cap, rfl⟩ := hsl
    obtain ⟨l, rfl, g1, g2, g3, g4, g5⟩ := recs_open (a := a) (len := len) (cap := cap) (d := y3.1) (p := y3.2) ⟨n, by simpa [Value.cells] using h3'⟩ hw3
    exact ⟨⟨⟨s0, s1, s2, l⟩, a, cap⟩, rfl, ⟨g1, ⟨w0, w1, g2⟩, g3, g5, w2⟩⟩
theorem bats_open {H : Type} {enc : TypeId × Value → H} {W : World} {a : Option Addr} {len cap : Nat} {d : DataW H} {p : List MemPlace} (h : DataW.Trod enc Tryz.prog W 0 (fun _ => true) true 83 (.slice a len cap) d p) (hw : ∀ k ∈ d.weights Tryz.prog 83, k ≤ reachBytes) :
    ∃ l : List BArg, l.length = len ∧ IsRow W a (l.flatMap BArg.cells) ∧ (∀ x ∈ l, BOk W x) ∧ len ≤ cap ∧ (a = none → cap = 0) ∧ cap ≤ maxLen :=
  haveI : Inhabited BArg := ⟨⟨⟨⟨#[]⟩, ⟨#[]⟩, 0, []⟩, none, 0⟩⟩
  slice_openW BArg.cells (fun x => BOk W x) 4 Tryz.underlying83 cells61 (fun cs m y hl hy hk => bat_read cs m y hl hy hk) h hw
end Go.Proofs.YthflmdgfenojcaaGreatDoor
namespace Go.Proofs.YthflmdgfenojcaaGreatDoor
set_option linter.unusedVariables false
open Go.RowKit
def zeroB : Bat := ⟨ByteArray.empty, ByteArray.empty, 0, []⟩
def bargAt (l : List BArg) (k : Nat) : BArg := l.getD k ⟨zeroB, none, 0⟩
def batAt (l : List BArg) (k : Nat) : Bat := (bargAt l k).b
theorem bargAt_get (l : List BArg) (k : Nat) (h : k < l.length) : bargAt l k = l[k] := by unfold bargAt; rw [List.getD_eq_getElem?_getD, List.getElem?_eq_getElem h]; rfl
theorem bargAt_mem (l : List BArg) (k : Nat) (h : k < l.length) : bargAt l k ∈ l := by rw [bargAt_get l k h]; exact List.getElem_mem h
def recsK (l : List BArg) (k : Nat) : List Rec := (l.take k).flatMap fun x => x.b.rs
theorem recsK_succ (l : List BArg) (k : Nat) (h : k < l.length) : recsK l (k + 1) = recsK l k ++ (bargAt l k).b.rs := by
  unfold recsK
  rw [List.take_succ_eq_append_getElem h, List.flatMap_append, bargAt_get l k h]
  simp
def ptM (l : List BArg) (k : Nat) : Int :=
  if chkB (batAt l k) ≠ 0 then chkB (batAt l k) else if (batAt l k).sd ≠ (batAt l 0).sd then 5 else if (batAt l k).dt ≠ (batAt l 0).dt then 14 else 0
def wholeM (id : ByteArray) (l : List BArg) : Bat := ⟨id, (batAt l 0).sd, (batAt l 0).dt, recsK l l.length⟩
def mrgE (id : ByteArray) (l : List BArg) : Int := if l.length = 0 then 1 else if firstE (ptM l) l.length ≠ 0 then firstE (ptM l) l.length else chkB (wholeM id l)
def mrgV (id : ByteArray) (l : List BArg) : Bat := if mrgE id l = 0 then wholeM id l else zeroB
/-- What Merge answers: the whole, or the zero file and why. -/
def MrgPost (id : ByteArray) (l : List BArg) (w : World) (e : Ending) (w' : World) : Prop :=
  ∃ A cp, e = .returned (.tuple #[batV (mrgV id l) A cp, .int .i64 (mrgE id l)]) ∧ IsRow w' A ((mrgV id l).rs.flatMap recF) ∧ (mrgV id l).rs.length ≤ cp ∧ Below w.heap.size w w'
theorem mrg_bad {id : ByteArray} {l : List BArg} {E : Int} {w W : World} (h : mrgE id l = E) (h0 : E ≠ 0) (hb : Below w.heap.size w W) : MrgPost id l w (.returned (.tuple #[.agg zbt, .int .i64 E])) W := by
  have hv : mrgV id l = zeroB := by unfold mrgV; rw [h, if_neg h0]
  exact ⟨none, 0, by rw [hv, h]; rfl, by rw [hv]; exact .inl rfl, by rw [hv]; exact Nat.le_refl _, hb⟩
structure BtAt (w : World) (b o : Nat) (x : BArg) : Prop where
  c0 : w.cell? ⟨b, o, none⟩ = some (.string x.b.id)
  c1 : w.cell? ⟨b, o + 1, none⟩ = some (.string x.b.sd)
  c2 : w.cell? ⟨b, o + 2, none⟩ = some (.int .i64 x.b.dt)
  c3 : w.cell? ⟨b, o + 3, none⟩ = some (.slice x.A x.b.rs.length x.cp)
theorem BtAt.later {w W : World} {b o : Nat} {x : BArg} (h : BtAt w b o x) (hb : Below w.heap.size w W) : BtAt W b o x :=
  ⟨cell_later hb h.c0, cell_later hb h.c1, cell_later hb h.c2, cell_later hb h.c3⟩
theorem bat_cells : ∀ (l : List BArg) (k : Nat) (h : k < l.length) (j : Nat), j < 4 → (l.flatMap BArg.cells)[k * 4 + j]? = (l[k].cells)[j]?
  | x :: l, 0, _, j, hj => by
    rw [List.flatMap_cons, List.getElem?_append_left (by show _ < 4; omega)]
    simp
  | x :: l, k + 1, h, j, hj => by
    rw [List.flatMap_cons, List.getElem?_append_right (by show 4 ≤ _; omega)]
    have e : (k + 1) * 4 + j - x.cells.length = k * 4 + j := by show (k + 1) * 4 + j - 4 = _; omega
    rw [e, bat_cells l k (by simpa using h) j hj]
    simp
theorem row_bt {w : World} {A : Option Addr} {l : List BArg} (hr : IsRow w A (l.flatMap BArg.cells)) (j : Nat) (h : j < l.length) :
    ∃ b off, A = some ⟨b, off, none⟩ ∧ ∀ k, k < l.length → BtAt w b (off + k * 4) (bargAt l k) := by
  rcases hr with hr | ⟨b, off, rfl, hr⟩
  · have := bat_cells l j h 0 (by omega)
    rw [List.getElem?_eq_none (by omega)] at this
    simp [BArg.cells] at this
  · refine ⟨b, off, rfl, fun k hk => ?_⟩
    rw [bargAt_get l k hk]
    have hc := fun j hj => bat_cells l k hk j hj
    constructor <;> first | exact hr _ _ (hc 0 (by omega)) | (rw [Nat.add_assoc]; first | exact hr _ _ (hc 1 (by omega)) | exact hr _ _ (hc 2 (by omega)) | exact hr _ _ (hc 3 (by omega)))
end Go.Proofs.YthflmdgfenojcaaGreatDoor
namespace Go.Proofs.YthflmdgfenojcaaGreatDoor
set_option linter.unusedVariables false
open Go.RowKit Go.Sort Go.Maps
/-- What the law hands Merge. -/
structure MgOk (w : World) (l : List BArg) : Prop where
  n : l.length ≤ 6
  k : ∀ x ∈ l, BOk w x ∧ x.b.rs.length ≤ 240
/-- The result's cell, and the whole so far. -/
structure MgS (id sd : ByteArray) (dt : Int) (rs : List Rec) (v : Value) (w W : World) : Prop where
  z : W.heap[w.heap.size]? = some (.cells zbt 61)
  t : W.heap[w.heap.size + 1]? = some (.cells #[.string id, .string sd, .int .i64 dt, v] 61)
  o : W.ownsRow (w.heap.size + 2) 57 12 v rs.length (rs.flatMap recF)
  b : Below w.heap.size w W
section
variable {id sd : ByteArray} {dt : Int} {rs : List Rec} {v u : Value} {w W W' : World}
theorem MgS.below (h : MgS id sd dt rs v w W) (hb : Below W.heap.size W W') : MgS id sd dt rs v w W' :=
  ⟨blk_later h.z hb, blk_later h.t hb, own_later h.o hb, h.b.trans (hb.mono h.b.size)⟩
theorem MgS.app (h : MgS id sd dt rs v w W) (x : List Rec) (h8 : W'.ownsRow (w.heap.size + 2) 57 12 u (rs.length + x.length) (rs.flatMap recF ++ x.flatMap recF)) (hg : W.grownBy W' v.ownBlock) :
    MgS id sd dt (rs ++ x) u w (W'.setCell ⟨w.heap.size + 1, 3, none⟩ u) := by
  have hz := grown_lt (B := 0) hg h.z (own_far h.o (by omega))
  have ht := grown_lt (B := 0) hg h.t (own_far h.o (by omega))
  have hbe := h.b.grown hg h.b.size (fun j hj => by have := (h.o.lt j hj).1; omega)
  have hset : W'.grownBy (W'.setCell ⟨w.heap.size + 1, 3, none⟩ u) (some (w.heap.size + 1)) := ⟨rfl, rfl, rfl, by simp [World.setCell], fun k _ hk => Below.heap_setCell _ _ _ _ (fun e => hk (by rw [e]))⟩
  refine ⟨grown_lt (B := 0) hset hz (by simp), by rw [heap_set1 ht 3 u]; rfl, ?_, hbe.setCell (p := ⟨w.heap.size + 1, 3, none⟩) (Nat.le_succ _) u⟩
  rw [List.length_append, List.flatMap_append]
  exact h8.kept hset (own_far' h8 (by omega))
theorem MgS.start (id sd : ByteArray) (dt : Int) (w : World) : MgS id sd dt [] (.slice none 0 0) w ((w.alloc (.cells zbt 61)).alloc (.cells #[.string id, .string sd, .int .i64 dt, .slice none 0 0] 61)) := by
  have e : (w.alloc (.cells zbt 61)).heap.size = w.heap.size + 1 := Array.size_push _
  refine ⟨blk_later (heap_alloc_new w _) (bx _ _), ?_, World.ownsRow_nil _ _ _ _, (bx w _).trans ((bx _ _).mono (by omega))⟩
  rw [← e]; exact heap_alloc_new _ _
end
set_option maxRecDepth 1000000 in
theorem mg_nil (id : ByteArray) (a : Option Addr) (cp : Nat) (w : World) : Calls Tryz.prog 52 #[.string id, .slice a 0 cp] w (MrgPost id [] w) := by
  have HK := Lib.hid (heap_alloc_new w (.cells zbt 61))
  have HB := Lib.hid (mrg_bad (id := id) (l := []) (E := 1) (w := w) (W := (w.alloc (.cells zbt 61)).setRow w.heap.size zbt) rfl (by decide) (below_setRow (bx w _) (Nat.le_refl _) _))
  unfold zbt btC at HK
  go_enter Tryz.func52, Tryz.ntmps52
  go_wp2_with (refine wpList_store_row rfl 61 _ _ rfl w.heap.size zbt rfl rfl 61 _ HK.out (info61 ⟨#[]⟩ ⟨#[]⟩ 0 (.slice none 0 0)) rfl zbt_one ?_)
  refine bodyPost_ret (v := .tuple #[.agg zbt, .int .i64 1]) ?_ rfl ?_
  · exact results_row_tmp (show Tryz.f52.results = #[.cell 4 61, .tmp 5] by kernel_rfl) _ _ w.heap.size 61 zbt (0, 0) _ _ rfl rfl (setRow_heap _ _ _ _ _ _ HK.out) Tryz.underlying61 rfl (info61 ⟨#[]⟩ ⟨#[]⟩ 0 (.slice none 0 0))
  · exact HB.out
theorem ptM_chk {l : List BArg} {k : Nat} (h : chkB (batAt l k) ≠ 0) : ptM l k = chkB (batAt l k) := by unfold ptM; rw [if_pos h]
theorem ptM_sd {l : List BArg} {k : Nat} (h : chkB (batAt l k) = 0) (h2 : (batAt l k).sd ≠ (batAt l 0).sd) : ptM l k = 5 := by unfold ptM; rw [if_neg (by simp [h]), if_pos h2]
theorem ptM_dt {l : List BArg} {k : Nat} (h : chkB (batAt l k) = 0) (h2 : (batAt l k).sd = (batAt l 0).sd) (h3 : (batAt l k).dt ≠ (batAt l 0).dt) : ptM l k = 14 := by unfold ptM; rw [if_neg (by simp [h]), if_neg (by simp [h2]), if_pos h3]
theorem ptM_ok {l : List BArg} {k : Nat} (h : chkB (batAt l k) = 0) (h2 : (batAt l k).sd = (batAt l 0).sd) (h3 : (batAt l k).dt = (batAt l 0).dt) : ptM l k = 0 := by unfold ptM; rw [if_neg (by simp [h]), if_neg (by simp [h2]), if_neg (by simp [h3])]
theorem mrgE_at (id : ByteArray) {l : List BArg} {k : Nat} (hk : k < l.length) (h0 : ∀ j, j < k → ptM l j = 0) (h : ptM l k ≠ 0) : mrgE id l = ptM l k := by
  unfold mrgE
  have := firstE_at (ptM l) k l.length hk h0 h
  rw [if_neg (by omega), this, if_pos h]
theorem mrgE_end (id : ByteArray) {l : List BArg} (hn : l.length ≠ 0) (h0 : ∀ j, j < l.length → ptM l j = 0) : mrgE id l = chkB (wholeM id l) := by
  unfold mrgE
  rw [if_neg hn, firstE_zero _ _ h0, if_neg (by simp)]
theorem recsK_len {l : List BArg} (h : ∀ x ∈ l, x.b.rs.length ≤ 240) : ∀ k, k ≤ l.length → (recsK l k).length ≤ 240 * k
  | 0, _ => by simp [recsK]
  | k + 1, hk => by
    have ih := recsK_len h k (by omega)
    rw [recsK_succ l k (by omega), List.length_append]
    have := h _ (bargAt_mem l k (by omega))
    omega
theorem recsK_fit {l : List BArg} (h : ∀ x ∈ l, BatOk x.b) (k : Nat) : ∀ r ∈ recsK l k, r.Fit := fun r hr => by
  unfold recsK at hr
  obtain ⟨x, hx, hr⟩ := List.mem_flatMap.1 hr
  exact (h x (List.mem_of_mem_take hx)).r r hr
theorem mrg_good {id : ByteArray} {l : List BArg} {w W : World} {A : Option Addr} {c : Nat} (h : mrgE id l = 0) (hr : IsRow W A ((wholeM id l).rs.flatMap recF)) (hc : (wholeM id l).rs.length ≤ c) (hb : Below w.heap.size w W) :
    MrgPost id l w (.returned (.tuple #[.agg #[.string id, .string (batAt l 0).sd, .int .i64 (batAt l 0).dt, .slice A (wholeM id l).rs.length c], .int .i64 0])) W := by
  have hv : mrgV id l = wholeM id l := by unfold mrgV; rw [if_pos h]
  exact ⟨A, c, by rw [hv, h]; rfl, by rw [hv]; exact hr, by rw [hv]; exact hc, hb⟩
theorem isrow_set {w : World} {A : Option Addr} {n c : Nat} {xs : List Value} {B e size g : Nat} (h : w.ownsRow B e size (.slice A n c) n xs) (hg : g < B) (cs : Array Value) : IsRow (w.setRow g cs) A xs :=
  IsRow.of_own (c := c) (own_same h (fun j hj => setRow_other w (by have := (own_lt h hj).1; omega) cs))
set_option maxRecDepth 1000000 in
set_option maxHeartbeats 25600000 in
theorem mrg_any (id : ByteArray) (a : Option Addr) (cp : Nat) (l : List BArg) (w : World) (hr : IsRow w a (l.flatMap BArg.cells)) (hok : MgOk w l) (hc : l.length ≤ cp) (hi : id.size ≤ 500) (hsz : (bargAt l 0).b.sd.size ≤ 500) : Calls Tryz.prog 52 #[.string id, .slice a l.length cp] w (MrgPost id l w) := by
  by_cases hn : l.length = 0
  · obtain rfl := List.eq_nil_of_length_eq_zero hn
    exact mg_nil id a cp w
  obtain ⟨bb, off, rfl, hcell⟩ := row_bt hr 0 (by omega)
  have HROW := Lib.hid hcell
  have hf := hcell 0 (by omega)
  rw [Nat.zero_mul, Nat.add_zero] at hf
  have HF := Lib.hid hf
  have HS := Lib.hid ((MgS.start id (bargAt l 0).b.sd (bargAt l 0).b.dt w).below ((Below.refl _ _).drew))
  have HL := Lib.hid hok
  have hn6 := hok.n
  have HBAD := Lib.hid (fun E W h1 h2 h3 => mrg_bad (id := id) (l := l) (E := E) (w := w) (W := W) h1 h2 h3)
  have HP1 := Lib.hid (fun k h => ptM_chk (l := l) (k := k) h)
  have HP2 := Lib.hid (fun k h h2 => ptM_sd (l := l) (k := k) h h2)
  have HP3 := Lib.hid (fun k h h2 h3 => ptM_dt (l := l) (k := k) h h2 h3)
  have HP4 := Lib.hid (fun k h h2 h3 => ptM_ok (l := l) (k := k) h h2 h3)
  have HAT := Lib.hid (fun k hk h0 h => mrgE_at id (l := l) (k := k) hk h0 h)
  have HWH := Lib.hid (fun A c W h1 h2 h3 h4 => mrg_good (id := id) (l := l) (w := w) (W := W) (A := A) (c := c) h1 h2 h3 h4)
  unfold batAt at HP1 HP2 HP3 HP4 HWH
  have HWD : Hid (wholeM id l = ⟨id, (bargAt l 0).b.sd, (bargAt l 0).b.dt, recsK l l.length⟩) := Lib.hid rfl
  generalize hsd : (bargAt l 0).b.sd = sd at *
  generalize hdt : (bargAt l 0).b.dt = dt at *
  have c1 := HF.out.c1
  have c2 := HF.out.c2
  rw [hsd] at c1
  rw [hdt] at c2
  have HSD : Hid (sd.size ≤ 500) := Lib.hid hsz
  have hbl : bb < w.heap.size := World.block_lt_of_cell? w _ c1
  have d1 := cell_later (bx w (.cells zbt 61)) c1
  have d2 := cell_later (bx w (.cells zbt 61)) c2
  obtain ⟨i57, hi57, hz0, hz1, hz2⟩ := info_parts mkrec
  have HI := Lib.hid (And.intro hi57 (And.intro hz0 (And.intro hz1 hz2)))
  clear hsd hdt hcell hr hf hok hsz hi57 hz0 hz1 hz2
  unfold zbt btC at d1 d2 HS HBAD
  have l0 : ¬ (l.length : Int) = 0 := by omega
  have l1 : (0 : Int) < (l.length : Int) := by omega
  have lb : ((l.length : Int) == 0) = false := by simpa using l0
  go_enter Tryz.func52, Tryz.ntmps52
  go_wp2_with fail
  go_region
  go_wp2_with fail
  clear c1 c2 d1 d2
  go_loopw [27] (fun i wr => ∃ (k : Nat) (v : Value), k ≤ l.length ∧ i = .int .i64 k ∧ Hid (MgS id sd dt (recsK l k) v w wr) ∧ Hid (∀ j, j < k → ptM l j = 0)) (fun i _ => l.length - (intOf i).toNat)
  case atStart => exact ⟨0, _, Nat.zero_le _, rfl, HS, Lib.hid (fun j hj => absurd hj (Nat.not_lt_zero _))⟩
  case round =>
    clear HS
    obtain ⟨k, v, hk, rfl, HW, HZ⟩ := hrel
    by_cases hlt : k < l.length
    · have kI : (k : Int) < (l.length : Int) := by omega
      have k0 : (0 : Int) ≤ (k : Int) := by omega
      have HC := Lib.hid ((HROW.out k hlt).later HW.out.b)
      have HX := Lib.hid (HL.out.k _ (bargAt_mem l k hlt))
      have HRS := Lib.hid (recsK_succ l k hlt)
      have HRL := Lib.hid (recsK_len (fun x hx => (HL.out.k x hx).2) k hk)
      have HQ1 := Lib.hid (HP1.out k)
      have HQ2 := Lib.hid (HP2.out k)
      have HQ3 := Lib.hid (HP3.out k)
      have HQ4 := Lib.hid (HP4.out k)
      have HA1 := Lib.hid (HAT.out k hlt HZ.out)
      have HCK := Lib.hid (fun W hb => bcheck_any (bargAt l k).A (bargAt l k).cp (bargAt l k).b W (HX.out.1.r.below hb) HX.out.1.k.ok HX.out.1.c (Nat.le_trans HX.out.2 (by decide)))
      unfold PtPost batV at HCK
      obtain ⟨PT, hPT⟩ : ∃ PT, ptM l k = PT := ⟨_, rfl⟩
      have HPT := Lib.hid hPT
      rw [hPT] at HQ1 HQ2 HQ3 HQ4 HA1
      clear hPT
      obtain ⟨x, hx⟩ : ∃ x, bargAt l k = x := ⟨_, rfl⟩
      rw [hx] at HC HX HRS HQ1 HQ2 HQ3 HQ4 HCK
      clear hx
      generalize chkB x.b = E at *
      obtain ⟨⟨xi, xs, xd, xr⟩, xA, xc⟩ := x
      have c0 := HC.out.c0
      have c1 := HC.out.c1
      have c2 := HC.out.c2
      have c3 := HC.out.c3
      dsimp only at c0 c1 c2 c3 HX HRS HQ1 HQ2 HQ3 HQ4 HCK
      have HW1 := Lib.hid (HW.out.below (bx wr (.cells #[.string xi, .string xs, .int .i64 xd, .slice xA xr.length xc] 61)))
      have HK1 := Lib.hid (heap_alloc_new wr (.cells #[.string xi, .string xs, .int .i64 xd, .slice xA xr.length xc] 61))
      go_wp2_with fail
      refine (HCK.out _ HW1.out.b).mono ?_
      rintro e w2 ⟨rfl, hb⟩
      have HW2 := Lib.hid (HW1.out.below hb)
      have HK2 := Lib.hid (blk_later HK1.out hb)
      clear hb c0 c1 c2 c3
      have t1 : w2.cell? ⟨w.heap.size + 1, 1, none⟩ = some (.string sd) := cell_c HW2.out.t 1
      have t2 : w2.cell? ⟨w.heap.size + 1, 2, none⟩ = some (.int .i64 dt) := cell_c HW2.out.t 2
      have t3 : w2.cell? ⟨w.heap.size + 1, 3, none⟩ = some v := cell_c HW2.out.t 3
      have x1 : w2.cell? ⟨wr.heap.size, 1, none⟩ = some (.string xs) := cell_c HK2.out 1
      have x2 : w2.cell? ⟨wr.heap.size, 2, none⟩ = some (.int .i64 xd) := cell_c HK2.out 2
      have x3 : w2.cell? ⟨wr.heap.size, 3, none⟩ = some (.slice xA xr.length xc) := cell_c HK2.out 3
      by_cases hE : E = 0
      case neg =>
        have heb : (E != 0) = true := by simpa using hE
        have HE := Lib.hid (HA1.out (by rw [HQ1.out hE]; exact hE) |>.trans (HQ1.out hE))
        have HEN := Lib.hid hE
        clear hE t1 t2 t3 x1 x2 x3
        go_wp2_with (refine wpList_store_row rfl 61 _ _ rfl w.heap.size zbt rfl rfl 61 _ HW2.out.z (info61 ⟨#[]⟩ ⟨#[]⟩ 0 (.slice none 0 0)) rfl zbt_one ?_)
        refine bodyPost_ret (v := .tuple #[.agg zbt, .int .i64 E]) ?_ rfl ?_
        · exact results_row_tmp (show Tryz.f52.results = #[.cell 4 61, .tmp 5] by kernel_rfl) _ _ w.heap.size 61 zbt (0, 0) _ _ rfl rfl (setRow_heap _ _ _ _ _ _ HW2.out.z) Tryz.underlying61 rfl (info61 ⟨#[]⟩ ⟨#[]⟩ 0 (.slice none 0 0))
        · exact HBAD.out E _ HE.out HEN.out (below_setRow HW2.out.b (Nat.le_refl _) _)
      case pos =>
      subst hE
      by_cases hs : xs = sd
      case neg =>
        obtain ⟨q9, n9⟩ := str_ne hs
        have HE := Lib.hid (HA1.out (by rw [HQ2.out rfl hs]; decide) |>.trans (HQ2.out rfl hs))
        clear hs t2 t3 x2 x3
        go_wp2_with (refine wpList_store_row rfl 61 _ _ rfl w.heap.size zbt rfl rfl 61 _ HW2.out.z (info61 ⟨#[]⟩ ⟨#[]⟩ 0 (.slice none 0 0)) rfl zbt_one ?_)
        refine bodyPost_ret (v := .tuple #[.agg zbt, .int .i64 5]) ?_ rfl ?_
        · exact results_row_tmp (show Tryz.f52.results = #[.cell 4 61, .tmp 5] by kernel_rfl) _ _ w.heap.size 61 zbt (0, 0) _ _ rfl rfl (setRow_heap _ _ _ _ _ _ HW2.out.z) Tryz.underlying61 rfl (info61 ⟨#[]⟩ ⟨#[]⟩ 0 (.slice none 0 0))
        · exact HBAD.out 5 _ HE.out (by decide) (below_setRow HW2.out.b (Nat.le_refl _) _)
      case pos =>
      subst hs
      obtain ⟨q9, -⟩ := str_eq (rfl : xs = xs)
      by_cases hd : xd = dt
      case neg =>
        have hdb : (xd != dt) = true := by simpa using hd
        have HE := Lib.hid (HA1.out (by rw [HQ3.out rfl rfl hd]; decide) |>.trans (HQ3.out rfl rfl hd))
        clear hd t3 x3
        go_wp2_with (refine wpList_store_row rfl 61 _ _ rfl w.heap.size zbt rfl rfl 61 _ HW2.out.z (info61 ⟨#[]⟩ ⟨#[]⟩ 0 (.slice none 0 0)) rfl zbt_one ?_)
        refine bodyPost_ret (v := .tuple #[.agg zbt, .int .i64 14]) ?_ rfl ?_
        · exact results_row_tmp (show Tryz.f52.results = #[.cell 4 61, .tmp 5] by kernel_rfl) _ _ w.heap.size 61 zbt (0, 0) _ _ rfl rfl (setRow_heap _ _ _ _ _ _ HW2.out.z) Tryz.underlying61 rfl (info61 ⟨#[]⟩ ⟨#[]⟩ 0 (.slice none 0 0))
        · exact HBAD.out 14 _ HE.out (by decide) (below_setRow HW2.out.b (Nat.le_refl _) _)
      case pos =>
      subst hd
      have hdb : (xd != xd) = false := by simp
      have HZ1 : Hid (∀ j, j < k + 1 → ptM l j = 0) := Lib.hid (fun j hj => by
        rcases Nat.lt_or_ge j k with q | q
        · exact HZ.out j q
        · obtain rfl : j = k := by omega
          rw [HPT.out]; exact HQ4.out rfl rfl rfl)
      have HRD := Lib.hid (reads_row (HX.out.1.r.below HW2.out.b))
      have HON := Lib.hid (rows_one xr)
      have hxl : xr.length ≤ 240 := HX.out.2
      have hrl : (recsK l k).length ≤ 1440 := by have := HRL.out; omega
      have hw2 : w.heap.size + 1 < w2.heap.size := (Array.getElem?_eq_some_iff.1 HW2.out.t).1
      generalize recsK l k = rk at *
      go_wp2_with (at_builtin; refine wpList_append_any _ rfl (.tmp 50) (.tmp 52) _ rfl (w.heap.size + 2) 57 i57 _ 12 152 Tryz.underlying34 HI.out.1 HI.out.2.1 HI.out.2.2.1 HI.out.2.2.2 rfl (by omega) _ rk.length _ rfl HW2.out.o _ xA xr.length xc (xr.flatMap recF) rfl HRD.out HON.out (by unfold maxLen; omega) (by omega) (by omega) ?_; intro v7 w8 hown hgrow hwh; obtain ⟨A7, c7, rfl, hA7, hA8⟩ := own_form hown; clear hA7 hA8; have HA := Lib.hid hown; have HG := Lib.hid hgrow; have g1 := grown_lt (B := 0) hgrow HW2.out.t (own_far HW2.out.o (by omega)); have d3 := cell_c g1 3; have p3 := cell_f g1 3; clear hown hgrow hwh g1; simp at d3)
      have HW3 := Lib.hid (HW2.out.app xr HA.out HG.out)
      rw [← HRS.out] at HW3
      exact ⟨⟨k + 1, _, by omega, by go_num, HW3, HZ1⟩, by simp [intOf]; omega⟩
    · obtain rfl : k = l.length := by omega
      have kI : ¬ (l.length : Int) < (l.length : Int) := by omega
      have HEND := Lib.hid (mrgE_end id hn HZ.out)
      rw [HWD.out] at HEND HWH
      have HBO : Hid (BatOk ⟨id, sd, dt, recsK l l.length⟩) := Lib.hid ⟨Nat.le_trans hi (by decide), Nat.le_trans HSD.out (by decide), recsK_fit (fun x hx => (HL.out.k x hx).1.k.ok) l.length⟩
      have hrl := recsK_len (fun x hx => (HL.out.k x hx).2) l.length (Nat.le_refl _)
      obtain ⟨A, c, rfl, hA, hc2⟩ := own_form HW.out.o
      have HCK := Lib.hid (bcheck_any A c ⟨id, sd, dt, recsK l l.length⟩ wr hA HBO.out hc2 (by show (recsK l l.length).length ≤ 100000; omega))
      have HA := Lib.hid hA
      have HC := Lib.hid hc2
      unfold PtPost batV at HCK
      dsimp only at HCK HWH
      generalize chkB ⟨id, sd, dt, recsK l l.length⟩ = E at *
      generalize recsK l l.length = rk at *
      clear hA hc2 hrl
      go_wp2_with (refine wpList_load_row rfl 61 _ rfl (w.heap.size + 1) rfl 61 _ _ _ HW.out.t Tryz.underlying61 rfl (info61 id sd dt (.slice A rk.length c)) ?_)
      refine (HCK.out).mono ?_
      rintro e w2 ⟨rfl, hb⟩
      have HW2 := Lib.hid (HW.out.below hb)
      have HA2 := Lib.hid (HA.out.below hb)
      clear hb
      by_cases hE : E = 0
      case neg =>
        have heb : (E != 0) = true := by simpa using hE
        have HEN := Lib.hid hE
        clear hE
        go_wp2_with (refine wpList_store_row rfl 61 _ _ rfl w.heap.size zbt rfl rfl 61 _ HW2.out.z (info61 ⟨#[]⟩ ⟨#[]⟩ 0 (.slice none 0 0)) rfl zbt_one ?_)
        refine bodyPost_ret (v := .tuple #[.agg zbt, .int .i64 E]) ?_ rfl ?_
        · exact results_row_tmp (show Tryz.f52.results = #[.cell 4 61, .tmp 5] by kernel_rfl) _ _ w.heap.size 61 zbt (0, 0) _ _ rfl rfl (setRow_heap _ _ _ _ _ _ HW2.out.z) Tryz.underlying61 rfl (info61 ⟨#[]⟩ ⟨#[]⟩ 0 (.slice none 0 0))
        · exact HBAD.out E _ HEND.out HEN.out (below_setRow HW2.out.b (Nat.le_refl _) _)
      case pos =>
      subst hE
      go_wp2_with (first | (refine wpList_load_row rfl 61 _ rfl (w.heap.size + 1) rfl 61 _ _ _ HW2.out.t Tryz.underlying61 rfl (info61 id sd dt (.slice A rk.length c)) ?_) | (refine wpList_store_row rfl 61 _ _ rfl w.heap.size (btC id sd dt (.slice A rk.length c)) rfl rfl 61 _ HW2.out.z (info61 _ _ _ _) rfl (bt_one HW2.out.o) ?_))
      refine bodyPost_ret (v := .tuple #[.agg (btC id sd dt (.slice A rk.length c)), .int .i64 0]) ?_ rfl ?_
      · exact results_row_tmp (show Tryz.f52.results = #[.cell 4 61, .tmp 5] by kernel_rfl) _ _ w.heap.size 61 (btC id sd dt (.slice A rk.length c)) (0, 0) _ _ rfl rfl (setRow_heap _ _ _ _ _ _ HW2.out.z) Tryz.underlying61 rfl (info61 _ _ _ _)
      · exact HWH.out A c _ HEND.out (isrow_set HW2.out.o (by omega) _) HC.out (below_setRow HW2.out.b (Nat.le_refl _) _)
end Go.Proofs.YthflmdgfenojcaaGreatDoor
namespace Go.Proofs.YthflmdgfenojcaaGreatDoor
set_option linter.unusedVariables false
open Go.RowKit Go.Sort Go.Maps
set_option maxRecDepth 1000000 in
theorem rmg_nil (id : ByteArray) (a : Option Addr) (cp : Nat) (w : World) : Calls Tryz.prog 53 #[.string id, .slice a 0 cp] w (MrgPost id [] w) := by
  have HK := Lib.hid (heap_alloc_new w (.cells zbt 61))
  have HB := Lib.hid (mrg_bad (id := id) (l := []) (E := 1) (w := w) (W := (w.alloc (.cells zbt 61)).setRow w.heap.size zbt) rfl (by decide) (below_setRow (bx w _) (Nat.le_refl _) _))
  unfold zbt btC at HK
  go_enter Tryz.func53, Tryz.ntmps53
  go_wp2_with (refine wpList_store_row rfl 61 _ _ rfl w.heap.size zbt rfl rfl 61 _ HK.out (info61 ⟨#[]⟩ ⟨#[]⟩ 0 (.slice none 0 0)) rfl zbt_one ?_)
  refine bodyPost_ret (v := .tuple #[.agg zbt, .int .i64 1]) ?_ rfl ?_
  · exact results_row_tmp (show Tryz.f53.results = #[.cell 4 61, .tmp 5] by kernel_rfl) _ _ w.heap.size 61 zbt (0, 0) _ _ rfl rfl (setRow_heap _ _ _ _ _ _ HK.out) Tryz.underlying61 rfl (info61 ⟨#[]⟩ ⟨#[]⟩ 0 (.slice none 0 0))
  · exact HB.out
set_option maxRecDepth 1000000 in
set_option maxHeartbeats 25600000 in
theorem rmrg_any (id : ByteArray) (a : Option Addr) (cp : Nat) (l : List BArg) (w : World) (hr : IsRow w a (l.flatMap BArg.cells)) (hok : MgOk w l) (hc : l.length ≤ cp) (hi : id.size ≤ 500) (hsz : (bargAt l 0).b.sd.size ≤ 500) : Calls Tryz.prog 53 #[.string id, .slice a l.length cp] w (MrgPost id l w) := by
  by_cases hn : l.length = 0
  · obtain rfl := List.eq_nil_of_length_eq_zero hn
    exact rmg_nil id a cp w
  obtain ⟨bb, off, rfl, hcell⟩ := row_bt hr 0 (by omega)
  have HROW := Lib.hid hcell
  have hf := hcell 0 (by omega)
  rw [Nat.zero_mul, Nat.add_zero] at hf
  have HF := Lib.hid hf
  have HS := Lib.hid ((MgS.start id (bargAt l 0).b.sd (bargAt l 0).b.dt w).below ((Below.refl _ _).drew))
  have HL := Lib.hid hok
  have hn6 := hok.n
  have HBAD := Lib.hid (fun E W h1 h2 h3 => mrg_bad (id := id) (l := l) (E := E) (w := w) (W := W) h1 h2 h3)
  have HP1 := Lib.hid (fun k h => ptM_chk (l := l) (k := k) h)
  have HP2 := Lib.hid (fun k h h2 => ptM_sd (l := l) (k := k) h h2)
  have HP3 := Lib.hid (fun k h h2 h3 => ptM_dt (l := l) (k := k) h h2 h3)
  have HP4 := Lib.hid (fun k h h2 h3 => ptM_ok (l := l) (k := k) h h2 h3)
  have HAT := Lib.hid (fun k hk h0 h => mrgE_at id (l := l) (k := k) hk h0 h)
  have HWH := Lib.hid (fun A c W h1 h2 h3 h4 => mrg_good (id := id) (l := l) (w := w) (W := W) (A := A) (c := c) h1 h2 h3 h4)
  unfold batAt at HP1 HP2 HP3 HP4 HWH
  have HWD : Hid (wholeM id l = ⟨id, (bargAt l 0).b.sd, (bargAt l 0).b.dt, recsK l l.length⟩) := Lib.hid rfl
  generalize hsd : (bargAt l 0).b.sd = sd at *
  generalize hdt : (bargAt l 0).b.dt = dt at *
  have c1 := HF.out.c1
  have c2 := HF.out.c2
  rw [hsd] at c1
  rw [hdt] at c2
  have HSD : Hid (sd.size ≤ 500) := Lib.hid hsz
  have hbl : bb < w.heap.size := World.block_lt_of_cell? w _ c1
  have d1 := cell_later (bx w (.cells zbt 61)) c1
  have d2 := cell_later (bx w (.cells zbt 61)) c2
  obtain ⟨i57, hi57, hz0, hz1, hz2⟩ := info_parts mkrec
  have HI := Lib.hid (And.intro hi57 (And.intro hz0 (And.intro hz1 hz2)))
  clear hsd hdt hcell hr hf hok hsz hi57 hz0 hz1 hz2
  unfold zbt btC at d1 d2 HS HBAD
  have l0 : ¬ (l.length : Int) = 0 := by omega
  have l1 : (0 : Int) < (l.length : Int) := by omega
  have lb : ((l.length : Int) == 0) = false := by simpa using l0
  go_enter Tryz.func53, Tryz.ntmps53
  go_wp2_with fail
  go_region
  go_wp2_with fail
  clear c1 c2 d1 d2
  go_loopw [7] (fun i wr => ∃ (k : Nat) (v : Value), k ≤ l.length ∧ i = .int .i64 k ∧ Hid (MgS id sd dt (recsK l k) v w wr) ∧ Hid (∀ j, j < k → ptM l j = 0)) (fun i _ => l.length - (intOf i).toNat)
  case atStart => exact ⟨0, _, Nat.zero_le _, rfl, HS, Lib.hid (fun j hj => absurd hj (Nat.not_lt_zero _))⟩
  case round =>
    clear HS
    obtain ⟨k, v, hk, rfl, HW, HZ⟩ := hrel
    by_cases hlt : k < l.length
    · have kI : (k : Int) < (l.length : Int) := by omega
      have k0 : (0 : Int) ≤ (k : Int) := by omega
      have HC := Lib.hid ((HROW.out k hlt).later HW.out.b)
      have HX := Lib.hid (HL.out.k _ (bargAt_mem l k hlt))
      have HRS := Lib.hid (recsK_succ l k hlt)
      have HRL := Lib.hid (recsK_len (fun x hx => (HL.out.k x hx).2) k hk)
      have HQ1 := Lib.hid (HP1.out k)
      have HQ2 := Lib.hid (HP2.out k)
      have HQ3 := Lib.hid (HP3.out k)
      have HQ4 := Lib.hid (HP4.out k)
      have HA1 := Lib.hid (HAT.out k hlt HZ.out)
      have HCK := Lib.hid (fun W hb => rcheck_any (bargAt l k).A (bargAt l k).cp (bargAt l k).b W (HX.out.1.r.below hb) HX.out.1.k.ok HX.out.1.c (Nat.le_trans HX.out.2 (by decide)))
      unfold PtPost batV at HCK
      obtain ⟨PT, hPT⟩ : ∃ PT, ptM l k = PT := ⟨_, rfl⟩
      have HPT := Lib.hid hPT
      rw [hPT] at HQ1 HQ2 HQ3 HQ4 HA1
      clear hPT
      obtain ⟨x, hx⟩ : ∃ x, bargAt l k = x := ⟨_, rfl⟩
      rw [hx] at HC HX HRS HQ1 HQ2 HQ3 HQ4 HCK
      clear hx
      generalize chkB x.b = E at *
      obtain ⟨⟨xi, xs, xd, xr⟩, xA, xc⟩ := x
      have c0 := HC.out.c0
      have c1 := HC.out.c1
      have c2 := HC.out.c2
      have c3 := HC.out.c3
      dsimp only at c0 c1 c2 c3 HX HRS HQ1 HQ2 HQ3 HQ4 HCK
      go_wp2_with fail
      refine (HCK.out _ HW.out.b).mono ?_
      rintro e w2 ⟨rfl, hb⟩
      have HW2 := Lib.hid (HW.out.below hb)
      have HC2 := Lib.hid (HC.out.later hb)
      clear hb c0 c1 c2 c3
      have t1 : w2.cell? ⟨w.heap.size + 1, 1, none⟩ = some (.string sd) := cell_c HW2.out.t 1
      have t2 : w2.cell? ⟨w.heap.size + 1, 2, none⟩ = some (.int .i64 dt) := cell_c HW2.out.t 2
      have t3 : w2.cell? ⟨w.heap.size + 1, 3, none⟩ = some v := cell_c HW2.out.t 3
      have x1 := HC2.out.c1
      have x2 := HC2.out.c2
      have x3 := HC2.out.c3
      dsimp only at x1 x2 x3
      by_cases hE : E = 0
      case neg =>
        have heb : (E != 0) = true := by simpa using hE
        have HE := Lib.hid (HA1.out (by rw [HQ1.out hE]; exact hE) |>.trans (HQ1.out hE))
        have HEN := Lib.hid hE
        clear hE t1 t2 t3 x1 x2 x3
        go_wp2_with (refine wpList_store_row rfl 61 _ _ rfl w.heap.size zbt rfl rfl 61 _ HW2.out.z (info61 ⟨#[]⟩ ⟨#[]⟩ 0 (.slice none 0 0)) rfl zbt_one ?_)
        refine bodyPost_ret (v := .tuple #[.agg zbt, .int .i64 E]) ?_ rfl ?_
        · exact results_row_tmp (show Tryz.f53.results = #[.cell 4 61, .tmp 5] by kernel_rfl) _ _ w.heap.size 61 zbt (0, 0) _ _ rfl rfl (setRow_heap _ _ _ _ _ _ HW2.out.z) Tryz.underlying61 rfl (info61 ⟨#[]⟩ ⟨#[]⟩ 0 (.slice none 0 0))
        · exact HBAD.out E _ HE.out HEN.out (below_setRow HW2.out.b (Nat.le_refl _) _)
      case pos =>
      subst hE
      by_cases hs : xs = sd
      case neg =>
        obtain ⟨q9, n9⟩ := str_ne hs
        have HE := Lib.hid (HA1.out (by rw [HQ2.out rfl hs]; decide) |>.trans (HQ2.out rfl hs))
        clear hs t2 t3 x2 x3
        go_wp2_with fail
        go_quiet (fail)
        rename Nat => nq
        have HW3 := Lib.hid (HW2.out.below (below_drewN w2 nq))
        have HC3 := Lib.hid (HC2.out.later (below_drewN w2 nq))
        generalize w2.drewN nq = w3 at *
        go_wp2_with (refine wpList_store_row rfl 61 _ _ rfl w.heap.size zbt rfl rfl 61 _ HW3.out.z (info61 ⟨#[]⟩ ⟨#[]⟩ 0 (.slice none 0 0)) rfl zbt_one ?_)
        refine bodyPost_ret (v := .tuple #[.agg zbt, .int .i64 5]) ?_ rfl ?_
        · exact results_row_tmp (show Tryz.f53.results = #[.cell 4 61, .tmp 5] by kernel_rfl) _ _ w.heap.size 61 zbt (0, 0) _ _ rfl rfl (setRow_heap _ _ _ _ _ _ HW3.out.z) Tryz.underlying61 rfl (info61 ⟨#[]⟩ ⟨#[]⟩ 0 (.slice none 0 0))
        · exact HBAD.out 5 _ HE.out (by decide) (below_setRow HW3.out.b (Nat.le_refl _) _)
      case pos =>
      subst hs
      obtain ⟨q9, -⟩ := str_eq (rfl : xs = xs)
      have HR3 := Lib.hid (fun h => HQ3.out rfl rfl h)
      have HR4 := Lib.hid (fun h => HQ4.out rfl rfl h)
      clear t2 t3 x2 x3 HQ1 HQ2 HQ3 HQ4
      go_wp2_with fail
      go_quiet (fail)
      rename Nat => nq
      have HW3 := Lib.hid (HW2.out.below (below_drewN w2 nq))
      have HC3 := Lib.hid (HC2.out.later (below_drewN w2 nq))
      generalize w2.drewN nq = w3 at *
      clear t1 x1
      have t2 : w3.cell? ⟨w.heap.size + 1, 2, none⟩ = some (.int .i64 dt) := cell_c HW3.out.t 2
      have x2 := HC3.out.c2
      dsimp only at x2
      by_cases hd : xd = dt
      case neg =>
        have hdb : (xd != dt) = true := by simpa using hd
        have HE := Lib.hid (HA1.out (by rw [HR3.out hd]; decide) |>.trans (HR3.out hd))
        clear hd
        go_wp2_with fail
        go_quiet (fail)
        rename Nat => nq
        have HW4 := Lib.hid (HW3.out.below (below_drewN w3 nq))
        have HC4 := Lib.hid (HC3.out.later (below_drewN w3 nq))
        generalize w3.drewN nq = w4 at *
        go_wp2_with (refine wpList_store_row rfl 61 _ _ rfl w.heap.size zbt rfl rfl 61 _ HW4.out.z (info61 ⟨#[]⟩ ⟨#[]⟩ 0 (.slice none 0 0)) rfl zbt_one ?_)
        refine bodyPost_ret (v := .tuple #[.agg zbt, .int .i64 14]) ?_ rfl ?_
        · exact results_row_tmp (show Tryz.f53.results = #[.cell 4 61, .tmp 5] by kernel_rfl) _ _ w.heap.size 61 zbt (0, 0) _ _ rfl rfl (setRow_heap _ _ _ _ _ _ HW4.out.z) Tryz.underlying61 rfl (info61 ⟨#[]⟩ ⟨#[]⟩ 0 (.slice none 0 0))
        · exact HBAD.out 14 _ HE.out (by decide) (below_setRow HW4.out.b (Nat.le_refl _) _)
      case pos =>
      subst hd
      have hdb : (xd != xd) = false := by simp
      have HZ1 : Hid (∀ j, j < k + 1 → ptM l j = 0) := Lib.hid (fun j hj => by
        rcases Nat.lt_or_ge j k with q | q
        · exact HZ.out j q
        · obtain rfl : j = k := by omega
          rw [HPT.out]; exact HR4.out rfl)
      go_wp2_with fail
      go_quiet (fail)
      rename Nat => nq
      have HW4 := Lib.hid (HW3.out.below (below_drewN w3 nq))
      have HC4 := Lib.hid (HC3.out.later (below_drewN w3 nq))
      generalize w3.drewN nq = w4 at *
      clear t2 x2
      have t3 : w4.cell? ⟨w.heap.size + 1, 3, none⟩ = some v := cell_c HW4.out.t 3
      have x3 := HC4.out.c3
      dsimp only at x3
      have HW5 := Lib.hid (HW4.out.below ((Below.refl _ _).drew))
      have HRD := Lib.hid (reads_row (HX.out.1.r.below HW5.out.b))
      have HON := Lib.hid (rows_one xr)
      have hxl : xr.length ≤ 240 := HX.out.2
      have hrl : (recsK l k).length ≤ 1440 := by have := HRL.out; omega
      have hw2 : w.heap.size + 1 < w4.heap.size := (Array.getElem?_eq_some_iff.1 HW4.out.t).1
      generalize recsK l k = rk at *
      go_wp2_with fail
      go_region_law
        (refine step_append_any _ rfl (.tmp 58) (.tmp 63) 34 rfl (w.heap.size + 2) 57 i57 _ 12 152 Tryz.underlying34 HI.out.1 HI.out.2.1 HI.out.2.2.1 HI.out.2.2.2 rfl (by omega) _ rk.length _ rfl HW5.out.o _ xA xr.length xc (xr.flatMap recF) rfl HRD.out HON.out (by unfold maxLen; omega) (by omega) (by show _ ≤ w4.heap.size; omega) ?_
         intro v7 w8 hown hgrow hwh
         obtain ⟨A7, c7, rfl, hA7, hA8⟩ := own_form hown
         clear hA7 hA8
         have HA := Lib.hid hown
         have HG := Lib.hid hgrow
         have g1 := grown_lt (B := 0) hgrow HW5.out.t (own_far HW5.out.o (by omega))
         have d3 := cell_c g1 3
         have p3 := cell_f g1 3
         clear hown hgrow hwh g1
         simp at d3)
      all_goals
        go_wp2_with fail
        have HW6 := Lib.hid (HW5.out.app xr HA.out HG.out)
        rw [← HRS.out] at HW6
        exact ⟨⟨k + 1, _, by omega, by go_num, HW6, HZ1⟩, by simp [intOf]; omega⟩
    · obtain rfl : k = l.length := by omega
      have kI : ¬ (l.length : Int) < (l.length : Int) := by omega
      have HEND := Lib.hid (mrgE_end id hn HZ.out)
      rw [HWD.out] at HEND HWH
      have HBO : Hid (BatOk ⟨id, sd, dt, recsK l l.length⟩) := Lib.hid ⟨Nat.le_trans hi (by decide), Nat.le_trans HSD.out (by decide), recsK_fit (fun x hx => (HL.out.k x hx).1.k.ok) l.length⟩
      have hrl := recsK_len (fun x hx => (HL.out.k x hx).2) l.length (Nat.le_refl _)
      obtain ⟨A, c, rfl, hA, hc2⟩ := own_form HW.out.o
      have HCK := Lib.hid (rcheck_any A c ⟨id, sd, dt, recsK l l.length⟩ wr hA HBO.out hc2 (by show (recsK l l.length).length ≤ 100000; omega))
      have HA := Lib.hid hA
      have HC := Lib.hid hc2
      unfold PtPost batV at HCK
      dsimp only at HCK HWH
      generalize chkB ⟨id, sd, dt, recsK l l.length⟩ = E at *
      generalize recsK l l.length = rk at *
      clear hA hc2 hrl
      go_wp2_with (refine wpList_load_row rfl 61 _ rfl (w.heap.size + 1) rfl 61 _ _ _ HW.out.t Tryz.underlying61 rfl (info61 id sd dt (.slice A rk.length c)) ?_)
      refine (HCK.out).mono ?_
      rintro e w2 ⟨rfl, hb⟩
      have HW2 := Lib.hid (HW.out.below hb)
      have HA2 := Lib.hid (HA.out.below hb)
      clear hb
      by_cases hE : E = 0
      case neg =>
        have heb : (E != 0) = true := by simpa using hE
        have HEN := Lib.hid hE
        clear hE
        go_wp2_with (refine wpList_store_row rfl 61 _ _ rfl w.heap.size zbt rfl rfl 61 _ HW2.out.z (info61 ⟨#[]⟩ ⟨#[]⟩ 0 (.slice none 0 0)) rfl zbt_one ?_)
        refine bodyPost_ret (v := .tuple #[.agg zbt, .int .i64 E]) ?_ rfl ?_
        · exact results_row_tmp (show Tryz.f53.results = #[.cell 4 61, .tmp 5] by kernel_rfl) _ _ w.heap.size 61 zbt (0, 0) _ _ rfl rfl (setRow_heap _ _ _ _ _ _ HW2.out.z) Tryz.underlying61 rfl (info61 ⟨#[]⟩ ⟨#[]⟩ 0 (.slice none 0 0))
        · exact HBAD.out E _ HEND.out HEN.out (below_setRow HW2.out.b (Nat.le_refl _) _)
      case pos =>
      subst hE
      go_wp2_with (first | (refine wpList_load_row rfl 61 _ rfl (w.heap.size + 1) rfl 61 _ _ _ HW2.out.t Tryz.underlying61 rfl (info61 id sd dt (.slice A rk.length c)) ?_) | (refine wpList_store_row rfl 61 _ _ rfl w.heap.size (btC id sd dt (.slice A rk.length c)) rfl rfl 61 _ HW2.out.z (info61 _ _ _ _) rfl (bt_one HW2.out.o) ?_))
      refine bodyPost_ret (v := .tuple #[.agg (btC id sd dt (.slice A rk.length c)), .int .i64 0]) ?_ rfl ?_
      · exact results_row_tmp (show Tryz.f53.results = #[.cell 4 61, .tmp 5] by kernel_rfl) _ _ w.heap.size 61 (btC id sd dt (.slice A rk.length c)) (0, 0) _ _ rfl rfl (setRow_heap _ _ _ _ _ _ HW2.out.z) Tryz.underlying61 rfl (info61 _ _ _ _)
      · exact HWH.out A c _ HEND.out (isrow_set HW2.out.o (by omega) _) HC.out (below_setRow HW2.out.b (Nat.le_refl _) _)
end Go.Proofs.YthflmdgfenojcaaGreatDoor
namespace Go.Proofs.YthflmdgfenojcaaGreatDoor
set_option linter.unusedVariables false
open Go.RowKit Go.Sort Go.Maps
theorem BOk.later {w W : World} {x : BArg} (h : BOk w x) (hb : Below w.heap.size w W) : BOk W x := ⟨h.r.below hb, h.k, h.c, h.m, h.d⟩
/-- Two files in two blocks. -/
structure Mg2 (w : World) (b1 b2 : Nat) (V : Bat) (A1 A2 : Option Addr) (c1 c2 : Nat) (W : World) : Prop where
  t1 : W.heap[b1]? = some (.cells #[.string V.id, .string V.sd, .int .i64 V.dt, .slice A1 V.rs.length c1] 61)
  t2 : W.heap[b2]? = some (.cells #[.string V.id, .string V.sd, .int .i64 V.dt, .slice A2 V.rs.length c2] 61)
  r1 : IsRow W A1 (V.rs.flatMap recF)
  r2 : IsRow W A2 (V.rs.flatMap recF)
  be : Below w.heap.size w W
section
variable {w W W' : World} {b1 b2 : Nat} {V : Bat} {A1 A2 : Option Addr} {c1 c2 : Nat}
theorem Mg2.below (h : Mg2 w b1 b2 V A1 A2 c1 c2 W) (hb : Below W.heap.size W W') : Mg2 w b1 b2 V A1 A2 c1 c2 W' :=
  ⟨blk_later h.t1 hb, blk_later h.t2 hb, h.r1.below hb, h.r2.below hb, h.be.trans (hb.mono h.be.size)⟩
theorem Mg2.row8 (h : Mg2 w b1 b2 V A1 A2 c1 c2 W) : W.cell? ⟨b1, 0, none⟩ = some (.string V.id) ∧ W.cell? ⟨b1, 1, none⟩ = some (.string V.sd) ∧ W.cell? ⟨b1, 2, none⟩ = some (.int .i64 V.dt) ∧ W.cell? ⟨b1, 3, none⟩ = some (.slice A1 V.rs.length c1) ∧
    W.cell? ⟨b2, 0, none⟩ = some (.string V.id) ∧ W.cell? ⟨b2, 1, none⟩ = some (.string V.sd) ∧ W.cell? ⟨b2, 2, none⟩ = some (.int .i64 V.dt) ∧ W.cell? ⟨b2, 3, none⟩ = some (.slice A2 V.rs.length c2) :=
  ⟨cell_c h.t1 0, cell_c h.t1 1, cell_c h.t1 2, cell_c h.t1 3, cell_c h.t2 0, cell_c h.t2 1, cell_c h.t2 2, cell_c h.t2 3⟩
end
theorem mrgV_len {id : ByteArray} {l : List BArg} (h : l.length ≤ 6) (h2 : ∀ x ∈ l, x.b.rs.length ≤ 240) : (mrgV id l).rs.length ≤ maxLen := by
  have := recsK_len h2 l.length (Nat.le_refl _)
  unfold mrgV
  split
  · show (recsK l l.length).length ≤ maxLen
    unfold maxLen; omega
  · exact Nat.zero_le _
set_option maxRecDepth 1000000 in
set_option maxHeartbeats 25600000 in
theorem merges_any (id : ByteArray) (a : Option Addr) (cp : Nat) (l : List BArg) (w : World) (hw : BW w) (hr : IsRow w a (l.flatMap BArg.cells)) (hok : ∀ x ∈ l, BOk w x) (hc : l.length ≤ cp) (hid : id.size ≤ maxLen) (hm : l.length ≤ maxLen) :
    Calls Tryz.prog 10 #[.string id, .slice a l.length cp] w fun e w' => e = .returned (.bool true) ∧ Below w.heap.size w w' := by
  have HKW := Lib.hid hw
  have HR := Lib.hid hr
  have HOK := Lib.hid hok
  have HAW := Lib.hid (fun W hW => awb_any W hW)
  unfold maxLen at hid hm
  clear hw hr hok
  by_cases h1 : 500 < id.size
  · have h1I : (500 : Int) < (id.size : Int) := by omega
    clear h1
    go_enter Tryz.func10, Tryz.ntmps10
    go_wp2_with fail
    refine (HAW.out _ HKW.out).mono ?_
    rintro e wa ⟨rfl, hb⟩
    have HB := Lib.hid hb
    clear hb
    go_wp2_with fail
    go_ret
    exact ⟨rfl, HB.out⟩
  have h1I : ¬ (500 : Int) < (id.size : Int) := by omega
  by_cases h2 : 6 < l.length
  · have h2I : (6 : Int) < (l.length : Int) := by omega
    clear h1 h2
    go_enter Tryz.func10, Tryz.ntmps10
    go_wp2_with fail
    refine (HAW.out _ HKW.out).mono ?_
    rintro e wa ⟨rfl, hb⟩
    have HB := Lib.hid hb
    clear hb
    go_wp2_with fail
    go_ret
    exact ⟨rfl, HB.out⟩
  have h2I : ¬ (6 : Int) < (l.length : Int) := by omega
  have d1 : decide ((500 : Int) < (id.size : Int)) = false := decide_eq_false h1I
  have d2 : decide ((6 : Int) < (l.length : Int)) = false := decide_eq_false h2I
  go_enter Tryz.func10, Tryz.ntmps10
  go_wp2_with fail
  go_loopw [5] (fun i wr => ∃ k : Nat, k ≤ l.length ∧ i = .int .i64 k ∧ Hid (Below w.heap.size w wr) ∧ Hid (∀ j, j < k → boB (batAt l j) = true)) (fun i _ => l.length - (intOf i).toNat)
  case atStart => exact ⟨0, Nat.zero_le _, rfl, Lib.hid (Below.refl _ _), Lib.hid (fun j hj => absurd hj (Nat.not_lt_zero _))⟩
  case round =>
    obtain ⟨k, hk, rfl, HW, HZ⟩ := hrel
    by_cases hlt : k < l.length
    · have kI : (k : Int) < (l.length : Int) := by omega
      have k0 : (0 : Int) ≤ (k : Int) := by omega
      obtain ⟨bb, off, rfl, hcell⟩ := row_bt HR.out k hlt
      have HC := Lib.hid ((hcell k hlt).later HW.out)
      have HX := Lib.hid (HOK.out _ (bargAt_mem l k hlt))
      have HBO := Lib.hid (bo_any (bargAt l k).A (bargAt l k).cp (bargAt l k).b wr (HX.out.r.below HW.out) HX.out.k (Nat.le_trans HX.out.c HX.out.m))
      have HZ1 : Hid (boB (bargAt l k).b = true → ∀ j, j < k + 1 → boB (batAt l j) = true) := Lib.hid (fun h j hj => by
        rcases Nat.lt_or_ge j k with q | q
        · exact HZ.out j q
        · obtain rfl : j = k := by omega
          exact h)
      unfold BPost batV at HBO
      obtain ⟨x, hx⟩ : ∃ x, bargAt l k = x := ⟨_, rfl⟩
      rw [hx] at HC HX HBO HZ1
      clear hx hcell
      obtain ⟨S, hS⟩ : ∃ S, boB x.b = S := ⟨_, rfl⟩
      rw [hS] at HBO HZ1
      clear hS
      obtain ⟨⟨xi, xs, xd, xr⟩, xA, xc⟩ := x
      have c0 := HC.out.c0
      have c1 := HC.out.c1
      have c2 := HC.out.c2
      have c3 := HC.out.c3
      dsimp only at c0 c1 c2 c3 HBO
      cases S with
      | false =>
        go_wp2_with fail
        refine (HBO.out).mono ?_
        rintro e w1 ⟨rfl, hb⟩
        have HB := Lib.hid (HW.out.trans (hb.mono HW.out.size))
        clear hb
        go_wp2_with fail
        refine (HAW.out _ (HKW.out.below HB.out)).mono ?_
        rintro e wa ⟨rfl, hb⟩
        have HB := Lib.hid (HB.out.trans (hb.mono HB.out.size))
        clear hb
        go_wp2_with fail
        go_ret
        exact ⟨rfl, HB.out⟩
      | true =>
        have HZ2 := Lib.hid (HZ1.out rfl)
        go_wp2_with fail
        refine (HBO.out).mono ?_
        rintro e w1 ⟨rfl, hb⟩
        have HB := Lib.hid (HW.out.trans (hb.mono HW.out.size))
        clear hb
        go_wp2_with fail
        go_roundw
        case rel => exact ⟨k + 1, by omega, by go_num, HB, HZ2⟩
        case measure => simp [intOf]; omega
    · obtain rfl : k = l.length := by omega
      have kI : ¬ (l.length : Int) < (l.length : Int) := by omega
      have HBD : Hid (∀ x ∈ l, x.b.rs.length ≤ 240 ∧ x.b.sd.size ≤ 500) := Lib.hid (fun x hx => by
        obtain ⟨j, hj, rfl⟩ := List.getElem_of_mem hx
        have := boB_parts (HZ.out j hj)
        unfold batAt at this
        rw [bargAt_get l j hj] at this
        exact ⟨this.2.2.1, this.2.1⟩)
      have HMG : Hid (∀ W, Below w.heap.size w W → MgOk W l) := Lib.hid (fun W hb => ⟨by omega, fun x hx => ⟨(HOK.out x hx).later hb, (HBD.out x hx).1⟩⟩)
      have hs0 : (bargAt l 0).b.sd.size ≤ 500 := by
        rcases Nat.eq_zero_or_pos l.length with q | q
        · obtain rfl := List.eq_nil_of_length_eq_zero q
          exact Nat.zero_le _
        · exact (HBD.out _ (bargAt_mem l 0 q)).2
      have HM1 := Lib.hid (fun W (hb : Below w.heap.size w W) => mrg_any id a cp l W (HR.out.below hb) (HMG.out W hb) hc (by omega) hs0)
      have HM2 := Lib.hid (fun W (hb : Below w.heap.size w W) => rmrg_any id a cp l W (HR.out.below hb) (HMG.out W hb) hc (by omega) hs0)
      have HVL := Lib.hid (mrgV_len (id := id) (l := l) (by omega) (fun x hx => (HBD.out x hx).1))
      unfold MrgPost at HM1 HM2
      generalize mrgV id l = V at *
      generalize mrgE id l = E at *
      have hee : (E == E) = true := by simp
      clear HZ hs0
      go_wp2_with fail
      refine (HM1.out _ HW.out).mono ?_
      rintro e w1 ⟨A1, c1, rfl, hr1, hc1, hb⟩
      have HB1 := Lib.hid (HW.out.trans (hb.mono HW.out.size))
      have HR1 := Lib.hid hr1
      clear hb hr1 hc1
      unfold batV
      have HK1 := Lib.hid (heap_alloc_new w1 (.cells #[.string V.id, .string V.sd, .int .i64 V.dt, .slice A1 V.rs.length c1] 61))
      have HBX := Lib.hid (bx w1 (.cells #[.string V.id, .string V.sd, .int .i64 V.dt, .slice A1 V.rs.length c1] 61))
      go_wp2_with fail
      refine (HM2.out _ (HB1.out.trans (HBX.out.mono HB1.out.size))).mono ?_
      rintro e w2 ⟨A2, c2, rfl, hr2, hc2, hb⟩
      unfold batV
      have HBY := Lib.hid (bx w2 (.cells #[.string V.id, .string V.sd, .int .i64 V.dt, .slice A2 V.rs.length c2] 61))
      have HB0 := Lib.hid (HB1.out.trans (HBX.out.mono HB1.out.size))
      have HB : Hid (Mg2 w w1.heap.size w2.heap.size V A1 A2 c1 c2 (w2.alloc (.cells #[.string V.id, .string V.sd, .int .i64 V.dt, .slice A2 V.rs.length c2] 61))) := Lib.hid
        ⟨blk_later (blk_later HK1.out hb) HBY.out, heap_alloc_new _ _, ((HR1.out.below HBX.out).below hb).below HBY.out, hr2.below HBY.out, (HB0.out.trans (hb.mono HB0.out.size)).trans (HBY.out.mono (HB0.out.trans (hb.mono HB0.out.size)).size)⟩
      have HSA := Lib.hid (fun W h1 h2 => same_any A1 A2 c1 c2 V W h1 h2 HVL.out)
      unfold BPost batV at HSA
      clear hb hr2 hc2
      obtain ⟨k0, k1, k2, k3, k4, k5, k6, k7⟩ := HB.out.row8
      go_wp2_with fail
      refine (HSA.out _ HB.out.r1 HB.out.r2).mono ?_
      rintro e w3 ⟨rfl, hb⟩
      have HB := Lib.hid (HB.out.below hb)
      clear hb k0 k1 k2 k3 k4 k5 k6 k7
      go_wp2_with fail
      refine (HAW.out _ (HKW.out.below HB.out.be)).mono ?_
      rintro e w4 ⟨rfl, hb⟩
      have HB := Lib.hid (HB.out.below hb)
      clear hb
      go_wp2_with fail
      go_ret
      exact ⟨rfl, HB.out.be⟩
theorem batchMerges_walk (w : World) (hw : BW w) (_ : True) (id : ByteArray) (hid : id.size ≤ maxLen) (a : Option Addr) (cp : Nat) (l : List BArg) (h : IsRow w a (l.flatMap BArg.cells) ∧ (∀ x ∈ l, BOk w x) ∧ l.length ≤ cp ∧ (a = none → cp = 0) ∧ cp ≤ maxLen) :
    Calls Tryz.prog 10 #[.string id, .slice a l.length cp] w fun e w' => e = .returned (.bool true) ∧ Below w.heap.size w w' :=
  merges_any id a cp l w hw h.1 h.2.1 h.2.2.1 hid (Nat.le_trans h.2.2.1 h.2.2.2.2)
end Go.Proofs.YthflmdgfenojcaaGreatDoor
