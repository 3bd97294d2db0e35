/- Part of the proof over this seat. -/
import Derived.Test.YthflmdgfenojcaaGreatDoorQFx16
import Derived.Test.YthflmdgfenojcaaGreatDoorQShelf
import Derived.Test.YthflmdgfenojcaaGreatDoorQPr
import Derived.Test.YthflmdgfenojcaaGreatDoorQC7Walk
import Derived.Test.YthflmdgfenojcaaGreatDoorQBd
import Derived.Test.YthflmdgfenojcaaGreatDoorQDec
namespace Go.Proofs.YthflmdgfenojcaaGreatDoor
set_option linter.unusedVariables false
open Go.RowKit
/-- The table that TrailingZeros64 reads. -/
def TzW (w : World) : Prop := w.cell? ⟨7, 15, none⟩ = some (.int .u8 4)
theorem TzW.below {w w' : World} (h : TzW w) (hb : Below w.heap.size w w') : TzW w' := cell_later hb h
theorem repeat0' (c : Nat) : Lib.repeatL (ByteArray.mk #[48]).data.toList c = List.replicate c 48 := by
  have := Lib.repeatL_replicate 48 1 c
  simpa using this
def StrPost (v : ByteArray) (w : World) (e : Ending) (w' : World) : Prop := e = .returned (.string v) ∧ Below w.heap.size w w'
set_option maxRecDepth 1000000 in
set_option maxHeartbeats 3200000 in
theorem crcd_any (s : ByteArray) (w : World) (hw : TzW w) (hs : s.size ≤ maxLen) : Calls Tryz.prog 96 #[.string s] w (StrPost (crcS s.data.toList) w) := by
  have hlt := crcOf_lt s.data.toList
  have HC := Lib.hid (C7.crc_any s w hs)
  generalize hm : C7.crcOf s.data.toList = m at hlt HC
  have hf := fuint16_any m w hw (by omega)
  obtain ⟨S, hS⟩ : ∃ S : ByteArray, S = ⟨(hexDigits m).toArray⟩ := ⟨_, rfl⟩
  rw [← hS] at hf
  have hSz : S.size = (hexDigits m).length := by rw [hS]; rfl
  have hS8 : S.size ≤ 8 := by rw [hSz]; exact hex_len 8 m (by omega) (by omega)
  have hc : (8 : Int) - (S.size : Int) = ((8 - S.size : Nat) : Int) := by omega
  have hrep := fun w => Tryz.strings_Repeat ⟨#[48]⟩ (8 - S.size) w (by omega) (by rw [show (ByteArray.mk #[48]).size = 1 from rfl]; omega)
  rw [← hc] at hrep
  rw [repeat0'] at hrep
  obtain ⟨Z, hZ⟩ : ∃ Z : ByteArray, Z = ⟨(List.replicate (8 - S.size) (48 : UInt8)).toArray⟩ := ⟨_, rfl⟩
  rw [← hZ] at hrep
  have hZz : Z.size = 8 - S.size := by rw [hZ]; show (List.replicate (8 - S.size) (48 : UInt8)).toArray.size = _; simp
  have hfin := Lib.hid (show Z ++ S = crcS s.data.toList by
    refine ba_ext ?_
    rw [ByteArray.data_append, Array.toList_append, hZ, hSz, hS]
    unfold crcS
    rw [hm]
    exact text8_hex m hlt)
  have HF := Lib.hid hf
  have HR := Lib.hid hrep
  clear hrep hc hS hSz hZ hf hw hm hs
  unfold StrPost
  go_enter Tryz.func96, Tryz.ntmps96
  go_wp2_with fail
  refine HC.out.mono ?_
  rintro e w0 ⟨rfl, rfl⟩
  go_wp2_with fail
  refine HF.out.mono ?_
  rintro e w1 ⟨rfl, hb⟩
  have HB := Lib.hid hb
  clear hb
  go_wp2_with fail
  refine (HR.out _).mono ?_
  rintro e w2 ⟨rfl, hb⟩
  have HB2 := Lib.hid (HB.out.trans (hb.mono HB.out.size))
  clear hb
  go_wp2_with fail
  go_ret
  exact ⟨by rw [← hfin.out]; rfl, HB2.out⟩
end Go.Proofs.YthflmdgfenojcaaGreatDoor
namespace Go.Proofs.YthflmdgfenojcaaGreatDoor
set_option linter.unusedVariables false
open Go.RowKit
def hexN (n : Nat) : Bool := !((decide (n < 48) || decide (57 < n)) && (decide (n < 97) || decide (102 < n)))
theorem lowB_hexN (n : Nat) (h : n < 256) : lowB n = hexN n := by
  have key : ∀ n : Fin 256, lowB n.1 = hexN n.1 := by decide +kernel
  exact key ⟨n, h⟩
theorem hexN_iff (n : Nat) : hexN n = true ↔ ¬ ((n < 48 ∨ 57 < n) ∧ (n < 97 ∨ 102 < n)) := by
  unfold hexN
  simp only [Bool.not_eq_true', Bool.and_eq_false_iff, Bool.or_eq_false_iff, decide_eq_false_iff_not]
  omega
theorem isCk_yes (s : ByteArray) (h : s.size = 8) (hh : ∀ j, (hj : j < s.size) → hexN (s[j]).toNat = true) : isCk s = true := by
  unfold isCk lowHex
  rw [Bool.and_eq_true, decide_eq_true_eq]
  refine ⟨h, List.all_eq_true.2 (fun c hc => ?_)⟩
  obtain ⟨j, hj, rfl⟩ := List.getElem_of_mem hc
  rw [lowB_hexN _ (UInt8.toNat_lt _)]
  exact hh j hj
theorem isCk_no (s : ByteArray) (k : Nat) (hk : k < s.size) (hh : hexN (s[k]).toNat = false) : isCk s = false := by
  unfold isCk lowHex
  rw [Bool.and_eq_false_iff]
  refine .inr (List.all_eq_false.2 ⟨s[k], ?_, ?_⟩)
  · have : s.data.toList[k]'hk ∈ s.data.toList := List.getElem_mem hk
    exact this
  · rw [lowB_hexN _ (UInt8.toNat_lt _), hh]; decide
theorem isCk_size (s : ByteArray) (h : s.size ≠ 8) : isCk s = false := by unfold isCk; rw [decide_eq_false h]; rfl
set_option maxHeartbeats 1600000 in
theorem isck_any (s : ByteArray) (w : World) (hs : s.size ≤ maxLen) : Calls Tryz.prog 149 #[.string s] w fun e w' => e = .returned (.bool (isCk s)) ∧ w = w' := by
  by_cases h : s.size = 8
  · have z1 : ((s.size : Int) != 8) = false := by simp; omega
    have hno := Lib.hid (isCk_no s)
    have hy := Lib.hid (isCk_yes s h)
    have HI := Lib.hid (fun k => hexN_iff k)
    unfold maxLen at hs
    go_enter Tryz.func149, Tryz.ntmps149
    go_wp2_with fail
    clear z1
    go_loop [10] (fun i => ∃ k : Nat, k ≤ s.size ∧ i = .int .i64 k ∧ Hid (∀ j, j < k → (h' : j < s.size) → hexN (s[j]).toNat = true)) (fun i => s.size - (intOf i).toNat)
    case atStart => exact ⟨0, by omega, rfl, Lib.hid (fun j h _ => by omega)⟩
    case round =>
      obtain ⟨k, hk, rfl, hall⟩ := hrel
      by_cases hlt : k < s.size
      · have hstep := Lib.hid (fun (hw : hexN (s[k]).toNat = true) j (h : j < k + 1) (h' : j < s.size) => show hexN (s[j]).toNat = true from by
          rcases Nat.lt_or_ge j k with c | c
          · exact hall.out j c h'
          · obtain rfl : j = k := by omega
            exact hw)
        have hN := Lib.hid (fun h => hno.out k hlt h)
        have hI := Lib.hid (HI.out (s[k]).toNat)
        go_wp2_with fail
        all_goals first
          | (refine ⟨⟨k + 1, by omega, by go_num, Lib.hid (hstep.out (hI.out.2 (by simp at *; omega)))⟩, by simp [intOf]; omega⟩)
          | (go_ret
             refine ⟨?_, rfl⟩
             rw [hN.out (by cases hc : hexN (s[k]).toNat; rfl; exfalso; have := hI.out.1 hc; simp at *; omega)]; try rfl)
      · obtain rfl : k = s.size := by omega
        have hY := Lib.hid (hy.out (fun j h => hall.out j h h))
        go_wp2_with fail
        go_ret
        exact ⟨by rw [hY.out]; rfl, rfl⟩
  · have hno := Lib.hid (isCk_size s h)
    have z1 : ((s.size : Int) != 8) = true := by simp; omega
    clear h hs
    go_enter Tryz.func149, Tryz.ntmps149
    go_wp2_with fail
    go_ret
    exact ⟨by rw [hno.out]; rfl, rfl⟩
/-- An element of a split text lies in its row. -/
theorem str_cell {W : World} {g : Nat} {l : List ByteArray} (h : W.heap[g]? = some (.cells (l.map Value.string).toArray 9)) (j : Nat) (hj : j < l.length) : W.cell? ⟨g, j, none⟩ = some (.string (prt l j)) := by
  rw [cell_c h, List.getElem?_toArray, List.getElem?_map, List.getElem?_eq_getElem hj]
  unfold prt
  rw [List.getD_eq_getElem?_getD, List.getElem?_eq_getElem hj]; rfl
def SpnPost (s : ByteArray) (w : World) (e : Ending) (w' : World) : Prop := e = .returned (.slice (some ⟨w.heap.size, 0, none⟩) (lnS s).length (lnS s).length) ∧ w' = w.alloc (.cells ((lnS s).map Value.string).toArray 9)
theorem splitlf_any (s : ByteArray) (w : World) (hw : KW w) (hs : s.size ≤ 1000000) : Calls Tryz.prog 67 #[.string s, .string ⟨#[10]⟩] w (SpnPost s w) := by
  obtain ⟨-, -, -, -, m, hm⟩ := hw
  refine (Tryz.strings_Split s lfS m w (by omega) hm (by decide)).mono ?_
  rintro e w' ⟨rfl, rfl⟩
  unfold SpnPost
  rw [lnS_len]
  exact ⟨rfl, rfl⟩
set_option maxHeartbeats 1600000 in
theorem lid_any (s : ByteArray) (w : World) (hw : KW w) (hs : s.size ≤ 1000000) : Calls Tryz.prog 106 #[.string s] w (StrPost (lnId s) w) := by
  have HSP := Lib.hid (split_any s w hw hs)
  unfold SplPost at HSP
  unfold StrPost lnId
  generalize cutS s = l at *
  have hsc := fun h => str_cell (W := w.alloc (.cells (l.map Value.string).toArray 9)) (heap_alloc_new w _) 2 h
  have HB := Lib.hid (bx w (.cells (l.map Value.string).toArray 9))
  clear hw hs
  by_cases hl : l.length = 13
  · rw [if_pos hl]
    have z1 : ((l.length : Int) != 13) = false := by simp; omega
    have c2 := hsc (by omega)
    clear hsc
    generalize (l.map Value.string).toArray = C at *
    generalize prt l 2 = p at *
    rw [hl] at HSP
    clear z1
    go_enter Tryz.func106, Tryz.ntmps106
    go_wp2_with fail
    refine HSP.out.mono ?_
    rintro e w1 ⟨rfl, rfl⟩
    go_wp2_with fail
    go_ret
    exact ⟨rfl, HB.out⟩
  · rw [if_neg hl]
    have z1 : ((l.length : Int) != 13) = true := by simp; omega
    clear hsc
    generalize (l.map Value.string).toArray = C at *
    go_enter Tryz.func106, Tryz.ntmps106
    go_wp2_with fail
    refine HSP.out.mono ?_
    rintro e w1 ⟨rfl, rfl⟩
    go_wp2_with fail
    go_ret
    exact ⟨rfl, HB.out⟩
end Go.Proofs.YthflmdgfenojcaaGreatDoor
