/- The walks of the functions that make bytes. -/
import Derived.Test.YtimjohcflclpmaaWalk1
import Derived.Handy
namespace Go.Proofs.Ytimjohcflclpmaa
set_option linter.unusedVariables false
open Go.RowKit

theorem make8 (w : World) : (Instr.makeSlice 33 (.int .i64 8) (.int .i64 8)).run Try.prog w = .ok (.slice (some ⟨w.heap.size, 0, none⟩) 8 8) (w.alloc (.cells #[.int .u8 0, .int .u8 0, .int .u8 0, .int .u8 0, .int .u8 0, .int .u8 0, .int .u8 0, .int .u8 0] 5)) := by kernel_rfl
theorem back8 (w : World) (x0 x1 x2 x3 x4 x5 x6 x7 : Int) : (convert 33 9 (.slice (some ⟨w.heap.size, 0, none⟩) 8 8)).run Try.prog (w.alloc (.cells #[.int .u8 x0, .int .u8 x1, .int .u8 x2, .int .u8 x3, .int .u8 x4, .int .u8 x5, .int .u8 x6, .int .u8 x7] 5)) = .ok (.string (strOfNums [x0, x1, x2, x3, x4, x5, x6, x7])) (w.alloc (.cells #[.int .u8 x0, .int .u8 x1, .int .u8 x2, .int .u8 x3, .int .u8 x4, .int .u8 x5, .int .u8 x6, .int .u8 x7] 5)) := by
  refine run_convert_bytes_arg _ 33 5 Try.underlying33 Try.underlying5 _ 0 8 8 [x0, x1, x2, x3, x4, x5, x6, x7] rfl ?_ 9 Try.underlying9
  intro i hi
  rw [World.cell?_alloc_mark]
  match i, hi with
  | 0, _ => rfl
  | 1, _ => rfl
  | 2, _ => rfl
  | 3, _ => rfl
  | 4, _ => rfl
  | 5, _ => rfl
  | 6, _ => rfl
  | 7, _ => rfl
theorem back1 (w : World) (x0 : Int) : (convert 33 9 (.slice (some ⟨w.heap.size, 0, none⟩) 1 1)).run Try.prog (w.alloc (.cells #[.int .u8 x0] 5)) = .ok (.string (strOfNums [x0])) (w.alloc (.cells #[.int .u8 x0] 5)) := by
  refine run_convert_bytes_arg _ 33 5 Try.underlying33 Try.underlying5 _ 0 1 1 [x0] rfl ?_ 9 Try.underlying9
  intro i hi
  rw [World.cell?_alloc_mark]
  match i, hi with
  | 0, _ => rfl
theorem back1' (w : World) (b : Nat) (x0 : Int) (hb : b = w.heap.size) : (convert 33 9 (.slice (some ⟨b, 0, none⟩) 1 1)).run Try.prog (w.alloc (.cells #[.int .u8 x0] 5)) = .ok (.string (strOfNums [x0])) (w.alloc (.cells #[.int .u8 x0] 5)) := by
  subst hb; exact back1 w x0
theorem chain_fin (h : Nat) (s : List UInt8) : fnv (fnv H0 (strOfNums (be8i h)).data.toList) s = chainOf h s := by
  rw [be8_i, chainOf, fnv_append]
theorem rchain_fin (h : Nat) (s : ByteArray) : fnv H0 (strOfNums (be8i h) ++ s).data.toList = chainOf h s.data.toList := by
  rw [chainOf, ← be8_i]; simp
set_option maxHeartbeats 400000 in
theorem chain_any (h : Nat) (s : ByteArray) (w : World) (hs : s.size ≤ 1000000) (hh : h < M64) :
    Calls Try.prog 21 #[.int .u64 h, .string s] w fun e w' => e = .returned (.int .u64 (chainOf h s.data.toList)) ∧ Below w.heap.size w w' := by
  have hmk := make8
  have hbk := back8
  have hf := Lib.hid (chain_fin h s.data.toList)
  go_enter Try.func21, Try.ntmps21
  go_wp2_with fail
  refine wp_loop_rounds 9 ?_
  repeat any_goals (rw [rounds_succ]; go_wp2_with fail)
  refine (hash_any _ _ (by rw [strOfNums_size]; unfold maxLen; simp)).mono ?_
  rintro e w' ⟨rfl, rfl⟩
  go_wp2_with fail
  refine (extend_any _ s _ (by unfold maxLen; omega) (fnv_lt _ _ H0_lt)).mono ?_
  rintro e w' ⟨rfl, rfl⟩
  go_wp2_with fail
  go_ret
  exact ⟨ret_int (by rw [← hf.out]; rfl), (Below.refl _ _).alloc (Nat.le_refl _) _⟩
set_option maxHeartbeats 400000 in
theorem rchain_any (h : Nat) (s : ByteArray) (w : World) (hs : s.size ≤ 1000000) (hh : h < M64) :
    Calls Try.prog 22 #[.int .u64 h, .string s] w fun e w' => e = .returned (.int .u64 (chainOf h s.data.toList)) ∧ Below w.heap.size w w' := by
  have hbk := back1'
  have hap := strOfNums_append
  have hem := empty_append
  have hsz := strOfNums_size
  have hf := Lib.hid (rchain_fin h s)
  go_enter Try.func22, Try.ntmps22
  go_wp2_with fail
  refine wp_loop_rounds 9 ?_
  repeat any_goals (rw [rounds_succ]; go_wp2_with fail)
  refine (rhash_any _ _ (by simp [hsz]; unfold maxLen; omega)).mono ?_
  rintro e w' ⟨rfl, rfl⟩
  go_wp2_with fail
  go_ret
  exact ⟨ret_int (by rw [← hf.out]; rfl), by go_grown⟩
end Go.Proofs.Ytimjohcflclpmaa
