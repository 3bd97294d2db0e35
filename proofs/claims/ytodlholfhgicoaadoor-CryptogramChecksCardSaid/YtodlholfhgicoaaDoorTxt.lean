/- The walks of Code and Text, and the reference's. -/
import Derived.Test.YtodlholfhgicoaaDoorMac
namespace Go.Proofs.YtodlholfhgicoaaDoor
set_option linter.unusedVariables false
open Go.RowKit

/-- What the walks read of the package's variables. -/
def KW (w : World) : Prop := TabW w ∧ 2 < w.heap.size ∧ w.cell? ⟨2, 15, none⟩ = some (.int .u8 4)
theorem KW.below {w w' : World} (h : KW w) (hb : Below w.heap.size w w') : KW w' :=
  ⟨h.1.below hb, Nat.lt_of_lt_of_le h.2.1 hb.size, (hb.cell (show (⟨2, 15, none⟩ : Addr).block < w.heap.size from h.2.1)).trans h.2.2⟩
theorem ba_eq {x : ByteArray} {l : List UInt8} (h : x.data.toList = l) : x = ⟨l.toArray⟩ := AnyPlain.small_ba x l h
theorem mk_size (l : List UInt8) : (ByteArray.mk l.toArray).size = l.length := rfl
/-- The last n decimal digits of a number. -/
def codeL (m n : Nat) : List UInt8 := pad 10 d10 n m
def codeS (m n : Nat) : ByteArray := ⟨(codeL m n).toArray⟩
theorem codeS_list (m n : Nat) : (codeS m n).data.toList = codeL m n := rfl
theorem codeL_length (m n : Nat) : (codeL m n).length = n := pad_length 10 d10 n m
def textS (m : Nat) : ByteArray := ⟨(text16 m).toArray⟩
theorem textS_size (m : Nat) : (textS m).size = 16 := (mk_size _).trans (pad_length _ _ _ _)
theorem repeat0 (c : Nat) : Lib.repeatL [48] c = List.replicate c 48 := by
  have := Lib.repeatL_replicate 48 1 c
  simpa using this
set_option maxRecDepth 100000 in
set_option maxHeartbeats 400000 in
theorem text_any (m : Nat) (w : World) (hw : KW w) (hm : m < M64) :
    Calls Tryd.prog 28 #[.int .u64 m] w fun e w' => e = .returned (.string (textS m)) ∧ Below w.heap.size w w' := by
  have hf := fuint16_any m w hw.2.2 hm
  obtain ⟨S, hS⟩ : ∃ S : ByteArray, S = ⟨(hexDigits m).toArray⟩ := ⟨_, rfl⟩
  rw [← hS] at hf
  have hSz : S.size = (hexDigits m).length := by rw [hS]; rfl
  have hS16 : S.size ≤ 16 := by rw [hSz]; exact hex_len 16 m (by omega) (by unfold M64 at hm; omega)
  have hc : (16 : Int) - (S.size : Int) = ((16 - S.size : Nat) : Int) := by omega
  have hrep := fun w => Tryd.strings_Repeat ⟨#[48]⟩ (16 - S.size) w (by omega) (by rw [show (ByteArray.mk #[48]).size = 1 from rfl]; omega)
  rw [← hc] at hrep
  have e48 : Lib.repeatL (ByteArray.mk #[48]).data.toList (16 - S.size) = List.replicate (16 - S.size) 48 := repeat0 _
  rw [e48] at hrep
  obtain ⟨Z, hZ⟩ : ∃ Z : ByteArray, Z = ⟨(List.replicate (16 - S.size) (48 : UInt8)).toArray⟩ := ⟨_, rfl⟩
  rw [← hZ] at hrep
  have hZz : Z.size = 16 - S.size := by rw [hZ, mk_size]; simp
  have hfin := Lib.hid (show Z ++ S = textS m by
    refine ba_eq ?_
    rw [ByteArray.data_append, Array.toList_append, hZ, hSz, hS]
    exact text16_hex m hm)
  have HF := Lib.hid hf
  have HR := Lib.hid hrep
  clear hrep hc e48 hS hSz hZ hf hm hw
  go_enter Tryd.func28, Tryd.ntmps28
  go_wp2_with fail
  refine HF.out.mono ?_
  rintro e w1 ⟨rfl, hb⟩
  have HB := Lib.hid hb
  clear hb
  go_wp2_with fail
  refine (HR.out _).mono ?_
  rintro e w2 ⟨rfl, hb⟩
  have HB2 := Lib.hid (HB.out.trans (hb.mono HB.out.size))
  clear hb
  go_wp2_with fail
  go_ret
  exact ⟨by rw [← hfin.out]; rfl, HB2.out⟩
def hexLit : ByteArray := "0123456789abcdef".toUTF8
theorem hexLit_size : hexLit.size = 16 := by decide +kernel
theorem hexLit_one : ∀ i : Fin 16, (hexLit.data.toList.drop i.val).take (i.val + 1 - i.val) = [d16 i.val] := by decide +kernel
theorem hexLit_piece (x : Nat) (h : x < 16) : hexLit.extract x (x + 1) = ⟨#[d16 x]⟩ := by
  have := hexLit_one ⟨x, h⟩
  exact ba_eq ((Lib.extract_data _ _ _).trans this)
def tailS (m k : Nat) : ByteArray := ⟨(pad 16 d16 k m).toArray⟩
theorem tailS_step (m k : Nat) (x : Nat) (hx : m / 16 ^ k = x) : (ByteArray.mk #[d16 (x % 16)]) ++ tailS m k = tailS m (k + 1) := by
  refine ba_eq ?_
  rw [ByteArray.data_append, Array.toList_append, pad_front, hx]
  rfl
set_option maxRecDepth 100000 in
set_option maxHeartbeats 400000 in
theorem rtext_any (m : Nat) (w : World) (hm : m < M64) :
    Calls Tryd.prog 33 #[.int .u64 m] w fun e w' => e = .returned (.string (textS m)) ∧ w = w' := by
  unfold M64 at hm
  go_enter Tryd.func33, Tryd.ntmps33
  go_name_bytes_deep 12 HL hHL
  have eHL : HL = hexLit := by rw [← hHL]; decide +kernel
  subst eHL
  clear hHL
  go_wp2_with fail
  go_loop [0, 3, 4] (fun x s i => ∃ k : Nat, k ≤ 16 ∧ i = .int .i64 k ∧ x = .int .u64 ((m / 16 ^ k : Nat) : Int) ∧ s = .string (tailS m k)) (fun _ _ i => 16 - (intOf i).toNat)
  case atStart => exact ⟨0, by omega, rfl, by simp, rfl⟩
  case round =>
    obtain ⟨k, hk, rfl, rfl, rfl⟩ := hrel
    by_cases hlt : k < 16
    · have hxm : m / 16 ^ k < 18446744073709551616 := Nat.lt_of_le_of_lt (Nat.div_le_self _ _) hm
      have hnx := Lib.hid (show m / 16 ^ (k + 1) = m / 16 ^ k / 16 by rw [Nat.div_div_eq_div_mul, ← Nat.pow_succ])
      have hst := Lib.hid (tailS_step m k (m / 16 ^ k) rfl)
      have hsz : (tailS m k).size = k := (mk_size _).trans (pad_length 16 d16 k m)
      generalize m / 16 ^ k = x at *
      have hsl : ∀ W, (Instr.slice 9 (.string hexLit) (some (.int .u64 ((x : Int) % 16))) (some (.int .u64 ((x : Int) % 16 + 1))) none).run Tryd.prog W = .ok (.string ⟨#[d16 (x % 16)]⟩) W := fun W => by
        rw [run_slice_string W 9 hexLit .u64 .u64 _ _ Tryd.underlying9 (by omega) (by omega) (by rw [hexLit_size]; omega), show ((x : Int) % 16).toNat = x % 16 by omega, show ((x : Int) % 16 + 1).toNat = x % 16 + 1 by omega, hexLit_piece _ (by omega)]
      have h1sz : (ByteArray.mk #[d16 (x % 16)]).size = 1 := rfl
      go_wp2_with fail
      go_round
      case rel => exact ⟨k + 1, by omega, by go_num, by rw [hnx.out]; go_num, by rw [← hst.out]⟩
      case measure => simp [intOf]; omega
    · obtain rfl : k = 16 := by omega
      go_wp2_with fail
      go_ret
      exact ⟨rfl, rfl⟩
end Go.Proofs.YtodlholfhgicoaaDoor
