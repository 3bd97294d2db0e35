/- The walks of the CRC functions. -/
import Derived.Test.YtimjohcflclpmaaChecked
import Derived.Test.YtimjohcflclpmaaPlain
import Derived.WalkLawsBesides
import Derived.WalkSpells
import Derived.Lib.Hide
namespace Go.Proofs.Ytimjohcflclpmaa
set_option linter.unusedVariables false
open Go.RowKit

set_option maxHeartbeats 400000 in
theorem rcrc_any (s : ByteArray) (w : World) (hs : s.size ≤ maxLen) :
    Calls Try.prog 18 #[.string s] w fun e w' => e = .returned (.int .u32 (crcOf s.data.toList)) ∧ w = w' := by
  unfold maxLen at hs
  go_enter Try.func18, Try.ntmps18
  go_wp2
  go_loop [3, 4] (fun c i => ∃ k : Nat, k ≤ s.size ∧ i = .int .i64 k ∧ c = .int .u32 (crcReg 4294967295 (s.data.toList.take k))) (fun _ i => s.size - (intOf i).toNat)
  case atStart => exact ⟨0, Nat.zero_le _, rfl, rfl⟩
  case round =>
    obtain ⟨k, hk, rfl, rfl⟩ := hrel
    have hc := crcReg_lt (s.data.toList.take k) 4294967295 (by omega)
    by_cases hlt : k < s.size
    · have hb := s[k].toNat_lt
      have hx : bits .xor .u32 (↑(crcReg 4294967295 (s.data.toList.take k))) (s[k].toNat : Int) = ((crcReg 4294967295 (s.data.toList.take k) ^^^ s[k].toNat : Nat) : Int) := by
        exact u32_xor_nat _ _ hc (by omega)
      have hxl : crcReg 4294967295 (s.data.toList.take k) ^^^ s[k].toNat < 4294967296 := Nat.xor_lt_two_pow (n := 32) hc (by omega)
      have hn : Hid (crcReg 4294967295 (s.data.toList.take (k + 1)) = crcBits 8 (crcReg 4294967295 (s.data.toList.take k) ^^^ s[k].toNat)) := by
        rw [take_snoc s k hlt, crcReg_snoc]; rfl
      generalize crcReg 4294967295 (s.data.toList.take k) ^^^ s[k].toNat = x at hx hxl hn
      go_wp2
      clear hx
      go_loop [3, 5] (fun c i => ∃ j : Nat, j ≤ 8 ∧ i = .int .i64 j ∧ c = .int .u32 (crcBits j x)) (fun _ i => 8 - (intOf i).toNat)
      case atStart => exact ⟨0, Nat.zero_le _, rfl, rfl⟩
      case round =>
        obtain ⟨j, hj, rfl, rfl⟩ := hrel
        have hy := crcBits_lt j x hxl
        have hsu := Lib.hid (crcBits_succ j x)
        generalize hye : crcBits j x = y at hy hsu
        have hyh := Lib.hid hye
        clear hye
        by_cases hj8 : j < 8
        · have hp : bits .xor .u32 ((y : Int) / 2) 3988292384 = ((y / 2 ^^^ 3988292384 : Nat) : Int) := u32_xor_nat (y / 2) 3988292384 (by omega) (by omega)
          go_wp2
          · exact ⟨⟨j + 1, by omega, by go_num, by rw [hsu.out, crcBit_odd y (by assumption)]⟩, by simp [intOf]; omega⟩
          · exact ⟨⟨j + 1, by omega, by go_num, by rw [hsu.out, crcBit_even y (by assumption)]; go_num⟩, by simp [intOf]; omega⟩
        · obtain rfl : j = 8 := by omega
          have hy8 := Lib.hid (hn.out.trans hyh.out)
          go_wp2
          go_round
          case rel => exact ⟨k + 1, by omega, by go_num, by rw [hy8.out]⟩
          case measure => simp [intOf]; omega
    · obtain rfl : k = s.size := by omega
      go_wp2
      go_ret
      exact ⟨ret_int (by rw [take_all] at hc ⊢; exact u32_xor_nat _ 4294967295 hc (by omega)), rfl⟩

set_option maxHeartbeats 400000 in
theorem crc_any (s : ByteArray) (w : World) (hs : s.size ≤ maxLen) :
    Calls Try.prog 17 #[.string s] w fun e w' => e = .returned (.int .u32 (crcOf s.data.toList)) ∧ w = w' := by
  unfold maxLen at hs
  go_enter Try.func17, Try.ntmps17
  go_wp2
  go_loop [3, 8] (fun c i => ∃ k : Nat, k ≤ s.size ∧ i = .int .i64 k ∧ c = .int .u32 (crcReg 4294967295 (s.data.toList.take k))) (fun _ i => s.size - (intOf i).toNat)
  case atStart => exact ⟨0, Nat.zero_le _, rfl, rfl⟩
  case round =>
    obtain ⟨k, hk, rfl, rfl⟩ := hrel
    have hc := crcReg_lt (s.data.toList.take k) 4294967295 (by omega)
    by_cases hlt : k < s.size
    · have hb := s[k].toNat_lt
      have hx : bits .xor .u32 (↑(crcReg 4294967295 (s.data.toList.take k))) (s[k].toNat : Int) = ((crcReg 4294967295 (s.data.toList.take k) ^^^ s[k].toNat : Nat) : Int) := by
        exact u32_xor_nat _ _ hc (by omega)
      have hxl : crcReg 4294967295 (s.data.toList.take k) ^^^ s[k].toNat < 4294967296 := Nat.xor_lt_two_pow (n := 32) hc (by omega)
      have hn : Hid (crcReg 4294967295 (s.data.toList.take (k + 1)) = crcBits 8 (crcReg 4294967295 (s.data.toList.take k) ^^^ s[k].toNat)) := by
        rw [take_snoc s k hlt, crcReg_snoc]; rfl
      generalize crcReg 4294967295 (s.data.toList.take k) ^^^ s[k].toNat = x at hx hxl hn
      go_wp2
      clear hx
      go_loop [3, 17] (fun c i => ∃ j : Nat, j ≤ 8 ∧ i = .int .i64 j ∧ c = .int .u32 (crcBits j x)) (fun _ i => 8 - (intOf i).toNat)
      case atStart => exact ⟨0, Nat.zero_le _, rfl, rfl⟩
      case round =>
        obtain ⟨j, hj, rfl, rfl⟩ := hrel
        have hy := crcBits_lt j x hxl
        have hsu := Lib.hid (crcBits_succ j x)
        generalize hye : crcBits j x = y at hy hsu
        have hyh := Lib.hid hye
        clear hye
        by_cases hj8 : j < 8
        · have hp : bits .xor .u32 ((y : Int) / 2) 3988292384 = ((y / 2 ^^^ 3988292384 : Nat) : Int) := u32_xor_nat (y / 2) 3988292384 (by omega) (by omega)
          have ha : bits .and .u32 (y : Int) 1 = (y : Int) % 2 := by
            rw [show (1 : Int) = ((1 : Nat) : Int) from rfl, u32_and_nat y 1 hy (by omega), nat_mask1]; omega
          go_wp2
          · exact ⟨⟨j + 1, by omega, by go_num, by rw [hsu.out, crcBit_odd y (by assumption)]⟩, by simp [intOf]; omega⟩
          · exact ⟨⟨j + 1, by omega, by go_num, by rw [hsu.out, crcBit_even y (by assumption)]; go_num⟩, by simp [intOf]; omega⟩
        · obtain rfl : j = 8 := by omega
          have hy8 := Lib.hid (hn.out.trans hyh.out)
          go_wp2
          go_round
          case rel => exact ⟨k + 1, by omega, by go_num, by rw [hy8.out]⟩
          case measure => simp [intOf]; omega
    · obtain rfl : k = s.size := by omega
      go_wp2
      go_ret
      exact ⟨ret_int (by rw [take_all] at hc ⊢; rw [show IntKind.u32.max = ((4294967295 : Nat) : Int) from rfl]; exact (u32_xor_nat 4294967295 _ (by omega) hc).trans (by rw [Nat.xor_comm]; rfl)), rfl⟩

set_option maxHeartbeats 400000 in
theorem extend_any (h : Nat) (s : ByteArray) (w : World) (hs : s.size ≤ maxLen) (hh : h < M64) :
    Calls Try.prog 26 #[.int .u64 h, .string s] w fun e w' => e = .returned (.int .u64 (fnv h s.data.toList)) ∧ w = w' := by
  unfold maxLen at hs
  go_enter Try.func26, Try.ntmps26
  go_wp2
  go_loop [0, 8] (fun c i => ∃ k : Nat, k ≤ s.size ∧ i = .int .i64 k ∧ c = .int .u64 (fnv h (s.data.toList.take k))) (fun _ i => s.size - (intOf i).toNat)
  case atStart => exact ⟨0, Nat.zero_le _, rfl, rfl⟩
  case round =>
    obtain ⟨k, hk, rfl, rfl⟩ := hrel
    have hc := fnv_lt (s.data.toList.take k) h hh
    by_cases hlt : k < s.size
    · have hb := s[k].toNat_lt
      have hn : Hid (fnv h (s.data.toList.take (k + 1)) = fnvStep (fnv h (s.data.toList.take k)) s[k].toNat) := by
        exact Lib.hid (by rw [take_snoc s k hlt, fnv_snoc])
      have hx : bits .xor .u64 (↑(fnv h (s.data.toList.take k))) (s[k].toNat : Int) = ((fnv h (s.data.toList.take k) ^^^ s[k].toNat : Nat) : Int) := by
        exact u64_xor_nat _ _ hc (by omega)
      unfold fnvStep at hn
      generalize fnv h (s.data.toList.take k) ^^^ s[k].toNat = x at hx hn
      clear hh hc
      go_wp2
      go_round
      case rel => exact ⟨k + 1, by omega, by go_num, by rw [hn.out, mulwrap]⟩
      case measure => simp [intOf]; omega
    · obtain rfl : k = s.size := by omega
      go_wp2
      go_ret
      exact ⟨ret_int (by rw [take_all]), rfl⟩

set_option maxHeartbeats 400000 in
theorem rhash_any (s : ByteArray) (w : World) (hs : s.size ≤ maxLen) :
    Calls Try.prog 20 #[.string s] w fun e w' => e = .returned (.int .u64 (fnv H0 s.data.toList)) ∧ w = w' := by
  unfold maxLen at hs
  go_enter Try.func20, Try.ntmps20
  go_wp2
  rw [H0_int]
  go_loop [3, 4] (fun c i => ∃ k : Nat, k ≤ s.size ∧ i = .int .i64 k ∧ c = .int .u64 (fnv H0 (s.data.toList.take k))) (fun _ i => s.size - (intOf i).toNat)
  case atStart => exact ⟨0, Nat.zero_le _, rfl, rfl⟩
  case round =>
    obtain ⟨k, hk, rfl, rfl⟩ := hrel
    have hc := fnv_lt (s.data.toList.take k) H0 H0_lt
    by_cases hlt : k < s.size
    · have hb := s[k].toNat_lt
      have hn : Hid (fnv H0 (s.data.toList.take (k + 1)) = fnvStep (fnv H0 (s.data.toList.take k)) s[k].toNat) := by
        exact Lib.hid (by rw [take_snoc s k hlt, fnv_snoc])
      have hx : bits .xor .u64 (↑(fnv H0 (s.data.toList.take k))) (s[k].toNat : Int) = ((fnv H0 (s.data.toList.take k) ^^^ s[k].toNat : Nat) : Int) := by
        exact u64_xor_nat _ _ hc (by omega)
      unfold fnvStep at hn
      generalize fnv H0 (s.data.toList.take k) ^^^ s[k].toNat = x at hx hn
      clear hc
      go_wp2
      go_round
      case rel => exact ⟨k + 1, by omega, by go_num, by rw [hn.out, mulwrap]⟩
      case measure => simp [intOf]; omega
    · obtain rfl : k = s.size := by omega
      go_wp2
      go_ret
      exact ⟨ret_int (by rw [take_all]), rfl⟩
set_option maxHeartbeats 400000 in
theorem hash_any (s : ByteArray) (w : World) (hs : s.size ≤ maxLen) :
    Calls Try.prog 19 #[.string s] w fun e w' => e = .returned (.int .u64 (fnv H0 s.data.toList)) ∧ w = w' := by
  have hc := extend_any H0 s w hs H0_lt
  rw [← H0_int] at hc
  go_enter Try.func19, Try.ntmps19
  go_wp2_with (go_at_call 26; refine hc.mono ?_; rintro e w' ⟨rfl, rfl⟩)
  go_ret
  exact ⟨rfl, rfl⟩
end Go.Proofs.Ytimjohcflclpmaa
