/- The walks of the hash functions. -/
import Derived.Test.YtodlholfhgicoaaDoorChecked
import Derived.Test.YtodlholfhgicoaaDoorPlain
import Derived.WalkLawsBesides
import Derived.WalkSpells
import Derived.Lib.Hide
namespace Go.Proofs.YtodlholfhgicoaaDoor
set_option linter.unusedVariables false
open Go.RowKit

set_option maxHeartbeats 400000 in
theorem extend_any (h : Nat) (s : ByteArray) (w : World) (hs : s.size ≤ maxLen) (hh : h < M64) :
    Calls Tryd.prog 84 #[.int .u64 h, .string s] w fun e w' => e = .returned (.int .u64 (fnv h s.data.toList)) ∧ w = w' := by
  unfold maxLen at hs
  go_enter Tryd.func84, Tryd.ntmps84
  go_wp2
  go_loop [0, 8] (fun c i => ∃ k : Nat, k ≤ s.size ∧ i = .int .i64 k ∧ c = .int .u64 (fnv h (s.data.toList.take k))) (fun _ i => s.size - (intOf i).toNat)
  case atStart => exact ⟨0, Nat.zero_le _, rfl, rfl⟩
  case round =>
    obtain ⟨k, hk, rfl, rfl⟩ := hrel
    have hc := fnv_lt (s.data.toList.take k) h hh
    by_cases hlt : k < s.size
    · have hb := s[k].toNat_lt
      have hn : Hid (fnv h (s.data.toList.take (k + 1)) = fnvStep (fnv h (s.data.toList.take k)) s[k].toNat) := by
        exact Lib.hid (by rw [take_snoc s k hlt, fnv_snoc])
      have hx : bits .xor .u64 (↑(fnv h (s.data.toList.take k))) (s[k].toNat : Int) = ((fnv h (s.data.toList.take k) ^^^ s[k].toNat : Nat) : Int) := by
        exact u64_xor_nat _ _ hc (by omega)
      unfold fnvStep at hn
      generalize fnv h (s.data.toList.take k) ^^^ s[k].toNat = x at hx hn
      clear hh hc
      go_wp2
      go_round
      case rel => exact ⟨k + 1, by omega, by go_num, by rw [hn.out, mulwrap]⟩
      case measure => simp [intOf]; omega
    · obtain rfl : k = s.size := by omega
      go_wp2
      go_ret
      exact ⟨ret_int (by rw [take_all]), rfl⟩

set_option maxHeartbeats 400000 in
theorem rhash_any (s : ByteArray) (w : World) (hs : s.size ≤ maxLen) :
    Calls Tryd.prog 55 #[.string s] w fun e w' => e = .returned (.int .u64 (fnv H0 s.data.toList)) ∧ w = w' := by
  unfold maxLen at hs
  go_enter Tryd.func55, Tryd.ntmps55
  go_wp2
  rw [H0_int]
  go_loop [3, 4] (fun c i => ∃ k : Nat, k ≤ s.size ∧ i = .int .i64 k ∧ c = .int .u64 (fnv H0 (s.data.toList.take k))) (fun _ i => s.size - (intOf i).toNat)
  case atStart => exact ⟨0, Nat.zero_le _, rfl, rfl⟩
  case round =>
    obtain ⟨k, hk, rfl, rfl⟩ := hrel
    have hc := fnv_lt (s.data.toList.take k) H0 H0_lt
    by_cases hlt : k < s.size
    · have hb := s[k].toNat_lt
      have hn : Hid (fnv H0 (s.data.toList.take (k + 1)) = fnvStep (fnv H0 (s.data.toList.take k)) s[k].toNat) := by
        exact Lib.hid (by rw [take_snoc s k hlt, fnv_snoc])
      have hx : bits .xor .u64 (↑(fnv H0 (s.data.toList.take k))) (s[k].toNat : Int) = ((fnv H0 (s.data.toList.take k) ^^^ s[k].toNat : Nat) : Int) := by
        exact u64_xor_nat _ _ hc (by omega)
      unfold fnvStep at hn
      generalize fnv H0 (s.data.toList.take k) ^^^ s[k].toNat = x at hx hn
      clear hc
      go_wp2
      go_round
      case rel => exact ⟨k + 1, by omega, by go_num, by rw [hn.out, mulwrap]⟩
      case measure => simp [intOf]; omega
    · obtain rfl : k = s.size := by omega
      go_wp2
      go_ret
      exact ⟨ret_int (by rw [take_all]), rfl⟩
set_option maxHeartbeats 400000 in
theorem hash_any (s : ByteArray) (w : World) (hs : s.size ≤ maxLen) :
    Calls Tryd.prog 70 #[.string s] w fun e w' => e = .returned (.int .u64 (fnv H0 s.data.toList)) ∧ w = w' := by
  have hc := extend_any H0 s w hs H0_lt
  rw [← H0_int] at hc
  go_enter Tryd.func70, Tryd.ntmps70
  go_wp2_with (go_at_call 84; refine hc.mono ?_; rintro e w' ⟨rfl, rfl⟩)
  go_ret
  exact ⟨rfl, rfl⟩
end Go.Proofs.YtodlholfhgicoaaDoor
