/- What the rows' list of variables gives: the tables stand in their variables, and ErrSyntax holds an error. -/
import Derived.Test.YtnoichipocmkgaaDoorRows
import Derived.Test.YtnoichipocmkgaaDoorLaws
import Derived.Lib.LaidTab
import Derived.Stop.LaidErr
namespace Go.Proofs.YtnoichipocmkgaaDoor
set_option linter.unusedVariables false
open Go.RowKit

theorem laid_tail {P : Program} {W : World} {x : String × DataW Unit} {rest : List (String × DataW Unit)} {ps : List MemPlace} (h : DataW.LaidVars P W (x :: rest) ps) : ∃ qs, DataW.LaidVars P W rest qs := by
  obtain ⟨g', t', cs, fuel, p, q, hg', ht', hvar, hd, hr, _⟩ := h
  exact ⟨q, hr⟩
theorem laid_tab {P : Program} {W : World} {name : String} {k : IntKind} {zs : List Int} {rest : List (String × DataW Unit)} {g : Nat} {t e : TypeId} {n : Nat} {ps : List MemPlace}
    (hg : P.globalNamed name = some g) (hty : (P.globals[g]?).map (·.type) = some t) (ht : P.underlying t = some (.array n e)) (he : P.underlying e = some (.int k)) (hce : P.cellsOf e = 1) (hct : P.cellsOf t = n)
    (h : DataW.LaidVars P W ((name, Lib.tabData k zs) :: rest) ps) : Lib.TabIs P W name k zs := by
  obtain ⟨g', t', cs, fuel, p, q, hg', ht', hvar, hd, _, _⟩ := h
  obtain rfl := Option.some.inj (hg.symm.trans hg')
  obtain rfl := Option.some.inj (hty.symm.trans ht')
  unfold Lib.TabIs
  rw [hvar, ← Lib.cells_of_tab ht he hce hct hd]
theorem gPow : Tryd.prog.globalNamed "internal/strconv.uint64pow10" = some 2 := by kernel_rfl
theorem gBr : Tryd.prog.globalNamed "math/bits.deBruijn64tab" = some 5 := by kernel_rfl
theorem gSyn : Tryd.prog.globalNamed "strconv.ErrSyntax" = some 0 := by kernel_rfl
theorem pow_data : (Rows.laid_internal_strconv_uint64pow10 : DataW Unit) = Lib.tabData .u64 Lib.pow10Tab := by kernel_rfl
def br64 : List Int := [0, 1, 56, 2, 57, 49, 28, 3, 61, 58, 42, 50, 38, 29, 17, 4, 62, 47, 59, 36, 45, 43, 51, 22, 53, 39, 33, 30, 24, 18, 12, 5, 63, 55, 48, 27, 60, 41, 37, 16, 46, 35, 44, 21, 52, 32, 23, 11, 54, 26, 40, 15, 34, 20, 31, 10, 25, 14, 19, 9, 13, 8, 7, 6]
theorem br_data : (Rows.laid_math_bits_deBruijn64tab : DataW Unit) = Lib.tabData .u8 br64 := by kernel_rfl
theorem rowE (u : TypeId) (h : Tryd.prog.typeName? 3 u = some "*errors.errorString") : u = 91 :=
  have st : "*" ++ "errors.errorString" = "*errors.errorString" := by decide
  typeName_ptr_named (nm := "errors.errorString") (by rw [st]; kernel_rfl) (by kernel_rfl) (by decide) u (by rw [st]; exact h)
theorem head {W : World} (h : laidMetH Tryd.prog Rows.keyedChecksRow.laid W) : KX W ∧ True := by
  have hm := (h : laidMet Tryd.prog Rows.keyedChecksRow.laid W)
  have he := hm.tail.tail.tail.tail
  obtain ⟨a0, s0, hv0, hc0, hs0, hz0⟩ := laid_sentinel he gSyn (by kernel_rfl) Tryd.underlying36 rowE Tryd.underlying91 Tryd.underlying93 rfl rfl Tryd.underlying9 (by kernel_rfl) (by kernel_rfl)
  have ce : W.cell? ⟨0, 0, none⟩ = some (.iface 91 (.pointer (some a0))) := by simpa using World.var?_cell gSyn hv0 0
  obtain ⟨ps, hv, _⟩ := hm
  obtain ⟨_, h1⟩ := laid_tail hv
  obtain ⟨_, h2⟩ := laid_tail h1
  rw [br_data] at h1
  rw [pow_data] at h2
  have t1 := laid_tab gPow (by kernel_rfl) Tryd.underlying84 Tryd.underlying22 (by kernel_rfl) (by kernel_rfl) h2
  have t2 := laid_tab gBr (by kernel_rfl) Tryd.underlying97 Tryd.underlying5 (by kernel_rfl) (by kernel_rfl) h1
  have c1 := t1.cell gPow 0 (by rw [Lib.pow10Tab_length]; omega)
  have c2 := t2.cell gBr 15 (by decide)
  exact ⟨⟨⟨⟨World.block_lt_of_cell? W _ c1, t1⟩, World.block_lt_of_cell? W _ c2, c2⟩, World.block_lt_of_cell? W _ ce, _, ce, .inr ⟨_, _, rfl⟩⟩, trivial⟩
end Go.Proofs.YtnoichipocmkgaaDoor
