/- The walks of Open. -/
import Derived.Test.YtimjohcflclpmaaWalk3
import Derived.Deep.RegionWith
namespace Go.Proofs.Ytimjohcflclpmaa
set_option linter.unusedVariables false
open Go.RowKit

/-- The string without its last eight bytes. -/
def bodyS (s : ByteArray) : ByteArray := s.extract 0 (s.size - 8)
/-- Does the string end in the seal of the rest? -/
def sealedB (s : ByteArray) : Bool := decide (s = bodyS s ++ sealS (crcOf (bodyS s).data.toList))
theorem extract_join (s : ByteArray) (h8 : 8 ≤ s.size) : s.extract 0 (s.size - 8) ++ s.extract (s.size - 8) s.size = s := by
  apply ByteArray.ext
  rw [ByteArray.data_append, ByteArray.data_extract, ByteArray.data_extract]
  simp
theorem bytes_eq (a b : ByteArray) : (a.toList == b.toList) = decide (a = b) := by
  rw [ByteArray.toList_eq, ByteArray.toList_eq, Bool.eq_iff_iff]
  simp only [beq_iff_eq, decide_eq_true_eq]
  constructor
  · intro h; exact ByteArray.ext (Array.toList_inj.1 h)
  · rintro rfl; rfl
theorem append_left_inj' (a b c : ByteArray) : a ++ b = a ++ c ↔ b = c := by
  constructor
  · intro h
    have := congrArg (fun x : ByteArray => x.data.toList) h
    simp at this
    exact ByteArray.ext this
  · rintro rfl; rfl
theorem ext_take (s : ByteArray) : (s.extract 0 (s.size - 8)).data.toList = List.take (s.size - 8) s.data.toList := by simp
theorem sealed_open (s : ByteArray) (h8 : 8 ≤ s.size) : ((sealS (crcOf (List.take (s.size - 8) s.data.toList))).toList == (s.extract (s.size - 8) s.size).toList) = sealedB s := by
  rw [← ext_take]
  rw [bytes_eq]
  unfold sealedB bodyS
  rw [Bool.eq_iff_iff]
  simp only [decide_eq_true_eq]
  constructor
  · intro h
    rw [h, extract_join s h8]
  · intro h
    rw [← append_left_inj' (s.extract 0 (s.size - 8)), extract_join s h8, ← h]
theorem sealed_ropen (s : ByteArray) : ((s.extract 0 (s.size - 8) ++ sealS (crcOf (List.take (s.size - 8) s.data.toList))).toList == s.toList) = sealedB s := by
  rw [← ext_take]
  rw [bytes_eq]
  unfold sealedB bodyS
  rw [Bool.eq_iff_iff]
  simp only [decide_eq_true_eq]
  exact eq_comm
/-- What Open returns. -/
def openV (s : ByteArray) : Value :=
  if s.size < 8 then .tuple #[.string ⟨#[]⟩, .int .i64 1]
  else if sealedB s then .tuple #[.string (bodyS s), .int .i64 0] else .tuple #[.string ⟨#[]⟩, .int .i64 9]
set_option maxHeartbeats 400000 in
theorem ropen_any (s : ByteArray) (w : World) (hs : s.size ≤ 1000000) :
    Calls Try.prog 14 #[.string s] w fun e w' => e = .returned (openV s) ∧ w = w' := by
  unfold openV
  by_cases h8 : s.size < 8
  · rw [if_pos h8]
    go_enter Try.func14, Try.ntmps14
    go_wp2_with fail
    go_ret2
    exact ⟨rfl, rfl⟩
  · rw [if_neg h8]
    have hq := sealed_ropen s
    cases hsb : sealedB s
    all_goals
      simp only [hsb] at hq
      clear hsb
      go_enter Try.func14, Try.ntmps14
      go_wp2_with fail
      refine (rseal_any _ _ (by simp; omega)).mono ?_
      rintro e w' ⟨rfl, rfl⟩
      go_wp2_with fail
      go_ret2
      exact ⟨rfl, rfl⟩
set_option maxHeartbeats 400000 in
theorem open_any (s : ByteArray) (w : World) (hs : s.size ≤ 1000000) :
    Calls Try.prog 13 #[.string s] w fun e w' => e = .returned (openV s) ∧ Below w.heap.size w w' := by
  unfold openV
  by_cases h8 : s.size < 8
  · rw [if_pos h8]
    go_enter Try.func13, Try.ntmps13
    go_wp2_with fail
    go_ret2
    exact ⟨rfl, Below.refl _ _⟩
  · rw [if_neg h8]
    have hq := sealed_open s (by omega)
    have ht : ((s.size : Int) - 8).toNat = s.size - 8 := by omega
    cases hsb : sealedB s
    all_goals
      simp only [hsb] at hq
      clear hsb
      go_enter Try.func13, Try.ntmps13
      go_wp2_with fail
      go_region_with (go_at_call 24; refine (sealOf_any _ _ (by unfold maxLen; simp; omega)).mono ?_; rintro e w' ⟨rfl, hb⟩)
      all_goals
        go_wp2_with fail
        go_ret2
        exact ⟨rfl, (Below.refl _ _).drew.trans (by assumption)⟩
end Go.Proofs.Ytimjohcflclpmaa
