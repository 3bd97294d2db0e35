/- What the rows' list of variables gives to the laws of files. -/
import Derived.Test.YthflmdgfenojcaaGreatDoorOpn
namespace Go.Proofs.YthflmdgfenojcaaGreatDoor
set_option linter.unusedVariables false
open Go.RowKit Go.ChangeShapes Go.WideShapes

def br64 : List Int := [0, 1, 56, 2, 57, 49, 28, 3, 61, 58, 42, 50, 38, 29, 17, 4, 62, 47, 59, 36, 45, 43, 51, 22, 53, 39, 33, 30, 24, 18, 12, 5, 63, 55, 48, 27, 60, 41, 37, 16, 46, 35, 44, 21, 52, 32, 23, 11, 54, 26, 40, 15, 34, 20, 31, 10, 25, 14, 19, 9, 13, 8, 7, 6]
theorem gBr : Tryz.prog.globalNamed "math/bits.deBruijn64tab" = some 7 := by kernel_rfl
theorem br_data : (Rows.laid_math_bits_deBruijn64tab : DataW Unit) = Lib.tabData .u8 br64 := by kernel_rfl
theorem szw {H : Type} {P : Program} {ts : List TypeId} {ds : List (DataW H)} (h : (DataW.weightsEach P ts ds).all (· ≤ reachBytes) = true) {j : Nat} {t : TypeId} {d : DataW H} (ht : ts[j]? = some t) (hd : ds[j]? = some d) : ∀ k ∈ d.weights P t, k ≤ reachBytes := fun k hk => by
  have := List.all_eq_true.1 h _ (DataW.weights_mem_each ht hd k hk)
  simpa using this
set_option maxRecDepth 100000 in
theorem headB {W : World} (h : laidMetH Tryz.prog Rows.batchTotalsRow.laid W) (hS : W.ShapedOpen Tryz.prog) : BW W ∧ True := by
  have hk := head (W := W) h hS
  refine ⟨⟨hk.1, ?_⟩, trivial⟩
  have hm := (h : laidMet Tryz.prog Rows.batchTotalsRow.laid W)
  have h1 := hm.tail
  obtain ⟨ps, hv, _⟩ := h1
  have hv' : DataW.LaidVars Tryz.prog W (("math/bits.deBruijn64tab", Rows.laid_math_bits_deBruijn64tab) :: _) ps := hv
  rw [br_data] at hv'
  have t1 := laid_tab gBr (by kernel_rfl) Tryz.underlying230 Tryz.underlying5 (by kernel_rfl) (by kernel_rfl) hv'
  exact t1.cell gBr 15 (by decide)
end Go.Proofs.YthflmdgfenojcaaGreatDoor
