/- The walk of crcDigits. -/
import Derived.Test.YthflmdgfenojcaaGreatDoorFx16
import Derived.Test.YthflmdgfenojcaaGreatDoorShelf
import Derived.Test.YthflmdgfenojcaaGreatDoorPdt
import Derived.Test.YthflmdgfenojcaaGreatDoorC7Walk
import Derived.Test.YthflmdgfenojcaaGreatDoorPrt
namespace Go.Proofs.YthflmdgfenojcaaGreatDoor
set_option linter.unusedVariables false
open Go.RowKit

/-- The table that TrailingZeros64 reads. -/
def TzW (w : World) : Prop := w.cell? ⟨7, 15, none⟩ = some (.int .u8 4)
theorem TzW.below {w w' : World} (h : TzW w) (hb : Below w.heap.size w w') : TzW w' := cell_later hb h
theorem repeat0' (c : Nat) : Lib.repeatL (ByteArray.mk #[48]).data.toList c = List.replicate c 48 := by
  have := Lib.repeatL_replicate 48 1 c
  simpa using this
def StrPost (v : ByteArray) (w : World) (e : Ending) (w' : World) : Prop := e = .returned (.string v) ∧ Below w.heap.size w w'
set_option maxRecDepth 1000000 in
set_option maxHeartbeats 3200000 in
theorem crcd_any (s : ByteArray) (w : World) (hw : TzW w) (hs : s.size ≤ maxLen) : Calls Tryz.prog 96 #[.string s] w (StrPost (crcS s.data.toList) w) := by
  have hlt := crcOf_lt s.data.toList
  have HC := Lib.hid (C7.crc_any s w hs)
  generalize hm : C7.crcOf s.data.toList = m at hlt HC
  have hf := fuint16_any m w hw (by omega)
  obtain ⟨S, hS⟩ : ∃ S : ByteArray, S = ⟨(hexDigits m).toArray⟩ := ⟨_, rfl⟩
  rw [← hS] at hf
  have hSz : S.size = (hexDigits m).length := by rw [hS]; rfl
  have hS8 : S.size ≤ 8 := by rw [hSz]; exact hex_len 8 m (by omega) (by omega)
  have hc : (8 : Int) - (S.size : Int) = ((8 - S.size : Nat) : Int) := by omega
  have hrep := fun w => Tryz.strings_Repeat ⟨#[48]⟩ (8 - S.size) w (by omega) (by rw [show (ByteArray.mk #[48]).size = 1 from rfl]; omega)
  rw [← hc] at hrep
  rw [repeat0'] at hrep
  obtain ⟨Z, hZ⟩ : ∃ Z : ByteArray, Z = ⟨(List.replicate (8 - S.size) (48 : UInt8)).toArray⟩ := ⟨_, rfl⟩
  rw [← hZ] at hrep
  have hZz : Z.size = 8 - S.size := by rw [hZ]; show (List.replicate (8 - S.size) (48 : UInt8)).toArray.size = _; simp
  have hfin := Lib.hid (show Z ++ S = crcS s.data.toList by
    refine ba_ext ?_
    rw [ByteArray.data_append, Array.toList_append, hZ, hSz, hS]
    unfold crcS
    rw [hm]
    exact text8_hex m hlt)
  have HF := Lib.hid hf
  have HR := Lib.hid hrep
  clear hrep hc hS hSz hZ hf hw hm hs
  unfold StrPost
  go_enter Tryz.func96, Tryz.ntmps96
  go_wp2_with fail
  refine HC.out.mono ?_
  rintro e w0 ⟨rfl, rfl⟩
  go_wp2_with fail
  refine HF.out.mono ?_
  rintro e w1 ⟨rfl, hb⟩
  have HB := Lib.hid hb
  clear hb
  go_wp2_with fail
  refine (HR.out _).mono ?_
  rintro e w2 ⟨rfl, hb⟩
  have HB2 := Lib.hid (HB.out.trans (hb.mono HB.out.size))
  clear hb
  go_wp2_with fail
  go_ret
  exact ⟨by rw [← hfin.out]; rfl, HB2.out⟩
end Go.Proofs.YthflmdgfenojcaaGreatDoor
