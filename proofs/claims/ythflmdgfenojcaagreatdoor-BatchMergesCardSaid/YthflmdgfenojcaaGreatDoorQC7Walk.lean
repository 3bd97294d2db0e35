/- Part of the proof over this seat. -/
import Derived.WalkLawsBesides
import Derived.WalkSpells
import Derived.Lib.Hide
import Derived.Test.YthflmdgfenojcaaGreatDoorQBase
import Derived.Test.YthflmdgfenojcaaGreatDoorQC7p
namespace Go.Proofs.YthflmdgfenojcaaGreatDoor.C7
set_option linter.unusedVariables false
open Go.RowKit Go.Proofs.YthflmdgfenojcaaGreatDoor
set_option maxHeartbeats 400000 in
theorem rcrc_any (s : ByteArray) (w : World) (hs : s.size ≤ maxLen) :
    Calls Tryz.prog 125 #[.string s] w fun e w' => e = .returned (.int .u32 (crcOf s.data.toList)) ∧ w = w' := by
  unfold maxLen at hs
  go_enter Tryz.func125, Tryz.ntmps125
  go_wp2
  go_loop [3, 4] (fun c i => ∃ k : Nat, k ≤ s.size ∧ i = .int .i64 k ∧ c = .int .u32 (crcReg 4294967295 (s.data.toList.take k))) (fun _ i => s.size - (intOf i).toNat)
  case atStart => exact ⟨0, Nat.zero_le _, rfl, rfl⟩
  case round =>
    obtain ⟨k, hk, rfl, rfl⟩ := hrel
    have hc := crcReg_lt (s.data.toList.take k) 4294967295 (by omega)
    by_cases hlt : k < s.size
    · have hb := s[k].toNat_lt
      have hx : bits .xor .u32 (↑(crcReg 4294967295 (s.data.toList.take k))) (s[k].toNat : Int) = ((crcReg 4294967295 (s.data.toList.take k) ^^^ s[k].toNat : Nat) : Int) := by
        exact u32_xor_nat _ _ hc (by omega)
      have hxl : crcReg 4294967295 (s.data.toList.take k) ^^^ s[k].toNat < 4294967296 := Nat.xor_lt_two_pow (n := 32) hc (by omega)
      have hn : Hid (crcReg 4294967295 (s.data.toList.take (k + 1)) = crcBits 8 (crcReg 4294967295 (s.data.toList.take k) ^^^ s[k].toNat)) := by
        rw [take_snoc s k hlt, crcReg_snoc]; rfl
      generalize crcReg 4294967295 (s.data.toList.take k) ^^^ s[k].toNat = x at hx hxl hn
      go_wp2
      clear hx
      go_loop [3, 5] (fun c i => ∃ j : Nat, j ≤ 8 ∧ i = .int .i64 j ∧ c = .int .u32 (crcBits j x)) (fun _ i => 8 - (intOf i).toNat)
      case atStart => exact ⟨0, Nat.zero_le _, rfl, rfl⟩
      case round =>
        obtain ⟨j, hj, rfl, rfl⟩ := hrel
        have hy := crcBits_lt j x hxl
        have hsu := Lib.hid (crcBits_succ j x)
        generalize hye : crcBits j x = y at hy hsu
        have hyh := Lib.hid hye
        clear hye
        by_cases hj8 : j < 8
        · have hp : bits .xor .u32 ((y : Int) / 2) 3988292384 = ((y / 2 ^^^ 3988292384 : Nat) : Int) := u32_xor_nat (y / 2) 3988292384 (by omega) (by omega)
          go_wp2
          · exact ⟨⟨j + 1, by omega, by go_num, by rw [hsu.out, crcBit_odd y (by assumption)]⟩, by simp [intOf]; omega⟩
          · exact ⟨⟨j + 1, by omega, by go_num, by rw [hsu.out, crcBit_even y (by assumption)]; go_num⟩, by simp [intOf]; omega⟩
        · obtain rfl : j = 8 := by omega
          have hy8 := Lib.hid (hn.out.trans hyh.out)
          go_wp2
          go_round
          case rel => exact ⟨k + 1, by omega, by go_num, by rw [hy8.out]⟩
          case measure => simp [intOf]; omega
    · obtain rfl : k = s.size := by omega
      go_wp2
      go_ret
      exact ⟨ret_int (by rw [take_all] at hc ⊢; exact u32_xor_nat _ 4294967295 hc (by omega)), rfl⟩
set_option maxHeartbeats 400000 in
theorem crc_any (s : ByteArray) (w : World) (hs : s.size ≤ maxLen) :
    Calls Tryz.prog 145 #[.string s] w fun e w' => e = .returned (.int .u32 (crcOf s.data.toList)) ∧ w = w' := by
  unfold maxLen at hs
  go_enter Tryz.func145, Tryz.ntmps145
  go_wp2
  go_loop [3, 8] (fun c i => ∃ k : Nat, k ≤ s.size ∧ i = .int .i64 k ∧ c = .int .u32 (crcReg 4294967295 (s.data.toList.take k))) (fun _ i => s.size - (intOf i).toNat)
  case atStart => exact ⟨0, Nat.zero_le _, rfl, rfl⟩
  case round =>
    obtain ⟨k, hk, rfl, rfl⟩ := hrel
    have hc := crcReg_lt (s.data.toList.take k) 4294967295 (by omega)
    by_cases hlt : k < s.size
    · have hb := s[k].toNat_lt
      have hx : bits .xor .u32 (↑(crcReg 4294967295 (s.data.toList.take k))) (s[k].toNat : Int) = ((crcReg 4294967295 (s.data.toList.take k) ^^^ s[k].toNat : Nat) : Int) := by
        exact u32_xor_nat _ _ hc (by omega)
      have hxl : crcReg 4294967295 (s.data.toList.take k) ^^^ s[k].toNat < 4294967296 := Nat.xor_lt_two_pow (n := 32) hc (by omega)
      have hn : Hid (crcReg 4294967295 (s.data.toList.take (k + 1)) = crcBits 8 (crcReg 4294967295 (s.data.toList.take k) ^^^ s[k].toNat)) := by
        rw [take_snoc s k hlt, crcReg_snoc]; rfl
      generalize crcReg 4294967295 (s.data.toList.take k) ^^^ s[k].toNat = x at hx hxl hn
      go_wp2
      clear hx
      go_loop [3, 17] (fun c i => ∃ j : Nat, j ≤ 8 ∧ i = .int .i64 j ∧ c = .int .u32 (crcBits j x)) (fun _ i => 8 - (intOf i).toNat)
      case atStart => exact ⟨0, Nat.zero_le _, rfl, rfl⟩
      case round =>
        obtain ⟨j, hj, rfl, rfl⟩ := hrel
        have hy := crcBits_lt j x hxl
        have hsu := Lib.hid (crcBits_succ j x)
        generalize hye : crcBits j x = y at hy hsu
        have hyh := Lib.hid hye
        clear hye
        by_cases hj8 : j < 8
        · have hp : bits .xor .u32 ((y : Int) / 2) 3988292384 = ((y / 2 ^^^ 3988292384 : Nat) : Int) := u32_xor_nat (y / 2) 3988292384 (by omega) (by omega)
          have ha : bits .and .u32 (y : Int) 1 = (y : Int) % 2 := by
            rw [show (1 : Int) = ((1 : Nat) : Int) from rfl, u32_and_nat y 1 hy (by omega), nat_mask1]; omega
          go_wp2
          · exact ⟨⟨j + 1, by omega, by go_num, by rw [hsu.out, crcBit_odd y (by assumption)]⟩, by simp [intOf]; omega⟩
          · exact ⟨⟨j + 1, by omega, by go_num, by rw [hsu.out, crcBit_even y (by assumption)]; go_num⟩, by simp [intOf]; omega⟩
        · obtain rfl : j = 8 := by omega
          have hy8 := Lib.hid (hn.out.trans hyh.out)
          go_wp2
          go_round
          case rel => exact ⟨k + 1, by omega, by go_num, by rw [hy8.out]⟩
          case measure => simp [intOf]; omega
    · obtain rfl : k = s.size := by omega
      go_wp2
      go_ret
      exact ⟨ret_int (by rw [take_all] at hc ⊢; rw [show IntKind.u32.max = ((4294967295 : Nat) : Int) from rfl]; exact (u32_xor_nat 4294967295 _ (by omega) hc).trans (by rw [Nat.xor_comm]; rfl)), rfl⟩
set_option maxHeartbeats 800000 in
theorem valueOf_any (s : ByteArray) (w : World) (hs : s.size ≤ maxLen) :
    Calls Tryz.prog 146 #[.string s] w fun e w' => e = .returned (.int .i64 (valOf s.data.toList)) ∧ w = w' := by
  unfold maxLen at hs
  go_enter Tryz.func146, Tryz.ntmps146
  go_wp2
  all_goals
    go_loop [3, 4] (fun n i => ∃ k : Nat, s.size - 8 ≤ k ∧ k ≤ s.size ∧ i = .int .i64 k ∧ n = .int .i64 (valTo s.data.toList (s.size - 8) k)) (fun _ i => s.size - (intOf i).toNat)
    case atStart => exact ⟨s.size - 8, Nat.le_refl _, by omega, i64_eq (by omega), by rw [valTo_start]; rfl⟩
    case round =>
      obtain ⟨k, hm, hk, rfl, rfl⟩ := hrel
      by_cases hlt : k < s.size
      · have hv := valTo_lt s.data.toList (s.size - 8) k (by omega)
        have hsu := Lib.hid (valTo_succ s (s.size - 8) k hm hlt)
        generalize valTo s.data.toList (s.size - 8) k = v at hv hsu
        have hb := s[k].toNat_lt
        go_wp2
        all_goals exact ⟨⟨k + 1, by omega, by omega, by go_num, i64_eq (by rw [hsu.out]; first | exact (valStep_dig _ _ (by omega) (by omega)).symm | exact (valStep_other _ _ (by omega)).symm)⟩, by simp [intOf]; omega⟩
      · obtain rfl : k = s.size := by omega
        go_wp2
        go_ret
        exact ⟨ret_int (by rw [valTo_end]), rfl⟩
set_option maxHeartbeats 800000 in
theorem total_any (a : Option Addr) (cap : Nat) (l : List ByteArray) (w : World) (hl : l.length ≤ maxLen) (hr : IsStrs w a l) (hb : ∀ i, i < l.length → (l.getD i ByteArray.empty).size ≤ maxLen) :
    Calls Tryz.prog 100 #[.slice a l.length cap] w fun e w' => e = .returned (.int .i64 (totB l)) ∧ w = w' := by
  have hbh := Lib.hid hb
  clear hb
  unfold maxLen at hl
  rcases hr with h0 | ⟨b, off, rfl, hc⟩
  · obtain rfl : l = [] := List.length_eq_zero_iff.1 h0
    go_enter Tryz.func100, Tryz.ntmps100
    go_wp2
    refine wp_loop_rounds 1 ?_
    rw [rounds_succ]
    go_wp2
    go_ret
    exact ⟨rfl, rfl⟩
  · have hch := Lib.hid hc
    clear hc
    go_enter Tryz.func100, Tryz.ntmps100
    go_wp2
    go_loop [3, 8] (fun n i => ∃ k : Nat, k ≤ l.length ∧ i = .int .i64 k ∧ n = .int .i64 (totB (l.take k))) (fun _ i => l.length - (intOf i).toNat)
    case atStart => exact ⟨0, Nat.zero_le _, rfl, rfl⟩
    case round =>
      obtain ⟨k, hk, rfl, rfl⟩ := hrel
      by_cases hlt : k < l.length
      · have hcell := hch.out k hlt
        have hbs := hbh.out k hlt
        have hn := Lib.hid (congrArg totB (takeB_snoc l k hlt))
        have ht := totB_lt (l.take k)
        have hv := valOf_lt (l.getD k ByteArray.empty).data.toList
        have hsn := Lib.hid (totB_snoc (l.take k) (l.getD k ByteArray.empty))
        generalize totB (l.take k) = t at ht hsn
        generalize l.getD k ByteArray.empty = s at hcell hbs hn hv hsn
        go_wp2_with fail
        refine (valueOf_any _ _ hbs).mono ?_
        rintro e w' ⟨rfl, rfl⟩
        go_wp2_with fail
        go_round
        case rel => exact ⟨k + 1, by omega, by go_num, i64_eq (by rw [hn.out, hsn.out]; omega)⟩
        case measure => simp [intOf]; omega
      · obtain rfl : k = l.length := by omega
        go_wp2
        go_ret
        exact ⟨ret_int (by simp), rfl⟩
set_option maxHeartbeats 800000 in
theorem rtotal_any (a : Option Addr) (cap : Nat) (l : List ByteArray) (w : World) (hl : l.length ≤ maxLen) (hr : IsStrs w a l) (hb : ∀ i, i < l.length → (l.getD i ByteArray.empty).size ≤ maxLen) :
    Calls Tryz.prog 101 #[.slice a l.length cap] w fun e w' => e = .returned (.int .i64 (totB l)) ∧ w = w' := by
  have hbh := Lib.hid hb
  clear hb
  unfold maxLen at hl
  rcases hr with h0 | ⟨b, off, rfl, hc⟩
  · obtain rfl : l = [] := List.length_eq_zero_iff.1 h0
    go_enter Tryz.func101, Tryz.ntmps101
    go_wp2
    refine wp_loop_rounds 1 ?_
    rw [rounds_succ]
    go_wp2
    go_ret
    exact ⟨rfl, rfl⟩
  · have hch := Lib.hid hc
    clear hc
    go_enter Tryz.func101, Tryz.ntmps101
    go_wp2
    go_loop [3, 4] (fun n i => ∃ k : Nat, k ≤ l.length ∧ i = .int .i64 k ∧ n = .int .i64 (totB (l.take k))) (fun _ i => l.length - (intOf i).toNat)
    case atStart => exact ⟨0, Nat.zero_le _, rfl, rfl⟩
    case round =>
      obtain ⟨k, hk, rfl, rfl⟩ := hrel
      by_cases hlt : k < l.length
      · have hcell := hch.out k hlt
        have hbs := hbh.out k hlt
        have hn := Lib.hid (congrArg totB (takeB_snoc l k hlt))
        have ht := totB_lt (l.take k)
        have hv := valOf_lt (l.getD k ByteArray.empty).data.toList
        have hsn := Lib.hid (totB_snoc (l.take k) (l.getD k ByteArray.empty))
        generalize totB (l.take k) = t at ht hsn
        generalize l.getD k ByteArray.empty = s at hcell hbs hn hv hsn
        unfold maxLen at hbs
        go_wp2
        all_goals
          go_loop [5, 6] (fun n i => ∃ j : Nat, s.size - 8 ≤ j ∧ j ≤ s.size ∧ i = .int .i64 j ∧ n = .int .i64 (valTo s.data.toList (s.size - 8) j)) (fun _ i => s.size - (intOf i).toNat)
          case atStart => exact ⟨s.size - 8, Nat.le_refl _, by omega, i64_eq (by omega), by rw [valTo_start]; rfl⟩
          case round =>
            obtain ⟨j, hm, hj, rfl, rfl⟩ := hrel
            by_cases hjt : j < s.size
            · have hvv := valTo_lt s.data.toList (s.size - 8) j (by omega)
              have hsu := Lib.hid (valTo_succ s (s.size - 8) j hm hjt)
              generalize valTo s.data.toList (s.size - 8) j = v at hvv hsu
              have hbb := s[j].toNat_lt
              go_wp2
              all_goals exact ⟨⟨j + 1, by omega, by omega, by go_num, i64_eq (by rw [hsu.out]; first | (have := valStep_dig v s[j] (by omega) (by omega); omega) | (have := valStep_other v s[j] (by omega); omega))⟩, by simp [intOf]; omega⟩
            · obtain rfl : j = s.size := by omega
              rw [valTo_end]
              go_wp2
              go_round
              case rel => exact ⟨k + 1, by omega, by go_num, i64_eq (by rw [hn.out, hsn.out]; omega)⟩
              case measure => simp [intOf]; omega
      · obtain rfl : k = l.length := by omega
        go_wp2
        go_ret
        exact ⟨ret_int (by simp), rfl⟩
end Go.Proofs.YthflmdgfenojcaaGreatDoor.C7
