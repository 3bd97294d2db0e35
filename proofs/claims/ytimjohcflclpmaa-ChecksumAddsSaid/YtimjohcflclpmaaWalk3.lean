/- The walks of the functions that seal and open. -/
import Derived.Test.YtimjohcflclpmaaWalk2
import Derived.Test.YtimjohcflclpmaaPlain2
namespace Go.Proofs.Ytimjohcflclpmaa
set_option linter.unusedVariables false
open Go.RowKit

theorem crcOf_lt (l : List UInt8) : crcOf l < 4294967296 := Nat.xor_lt_two_pow (n := 32) (crcReg_lt l _ (by omega)) (by omega)
set_option maxHeartbeats 400000 in
theorem sealOf_any (s : ByteArray) (w : World) (hs : s.size ≤ maxLen) :
    Calls Try.prog 24 #[.string s] w fun e w' => e = .returned (.string (sealS (crcOf s.data.toList))) ∧ Below w.heap.size w w' := by
  have ha := and15
  have hmk := make8
  have hbk := back8
  have hx := hex_at
  have hcl := crcOf_lt s.data.toList
  go_enter Try.func24, Try.ntmps24
  go_wp2_with fail
  refine (crc_any s _ hs).mono ?_
  rintro e w' ⟨rfl, rfl⟩
  go_wp2_with fail
  refine wp_loop_rounds 9 ?_
  repeat any_goals (rw [rounds_succ]; go_wp2_with fail)
  go_ret
  exact ⟨rfl, by go_grown⟩
set_option maxHeartbeats 400000 in
theorem hex_any (c : Nat) (w : World) (hc : c < 4294967296) :
    Calls Try.prog 25 #[.int .u64 c, .int .i64 8] w fun e w' => e = .returned (.string (sealS c)) ∧ w = w' := by
  have hap := strOfNums_append
  have hem := empty_append
  have hsz := strOfNums_size
  have hx := hex_cut'
  have hae := append_empty
  go_enter Try.func25, Try.ntmps25
  go_wp2_with fail
  refine wp_loop_rounds 9 ?_
  repeat any_goals (rw [rounds_succ]; go_wp2_with fail)
  go_ret
  exact ⟨by simp [sealS, sealI, Nat.div_div_eq_div_mul], rfl⟩

set_option maxHeartbeats 400000 in
theorem seal_any (s : ByteArray) (w : World) (hs : s.size ≤ 1000000) :
    Calls Try.prog 15 #[.string s] w fun e w' => e = .returned (.string (s ++ sealS (crcOf s.data.toList))) ∧ Below w.heap.size w w' := by
  have hsz := sealS_size
  go_enter Try.func15, Try.ntmps15
  go_wp2_with fail
  refine (sealOf_any s _ (by unfold maxLen; omega)).mono ?_
  rintro e w' ⟨rfl, hb⟩
  go_wp2_with fail
  go_ret
  exact ⟨rfl, hb⟩
set_option maxHeartbeats 400000 in
theorem rseal_any (s : ByteArray) (w : World) (hs : s.size ≤ 1000000) :
    Calls Try.prog 16 #[.string s] w fun e w' => e = .returned (.string (s ++ sealS (crcOf s.data.toList))) ∧ w = w' := by
  have hsz := sealS_size
  have hc := crcOf_lt s.data.toList
  go_enter Try.func16, Try.ntmps16
  go_wp2_with fail
  refine (rcrc_any s _ (by unfold maxLen; omega)).mono ?_
  rintro e w' ⟨rfl, rfl⟩
  go_wp2_with fail
  refine (hex_any _ _ hc).mono ?_
  rintro e w' ⟨rfl, rfl⟩
  go_wp2_with fail
  go_ret
  exact ⟨rfl, rfl⟩
end Go.Proofs.Ytimjohcflclpmaa
