/- What the rows' list of variables gives: the table of the powers of ten stands in its variable. -/
import Derived.Test.YtoiddojmlhknlaaDoorRows
import Derived.Test.YtoiddojmlhknlaaDoorNum
import Derived.Lib.LaidTab
namespace Go.Proofs.YtoiddojmlhknlaaDoor
set_option linter.unusedVariables false
open Go.RowKit

theorem laid_tail {P : Program} {W : World} {x : String × DataW Unit} {rest : List (String × DataW Unit)} {ps : List MemPlace} (h : DataW.LaidVars P W (x :: rest) ps) : ∃ qs, DataW.LaidVars P W rest qs := by
  obtain ⟨g', t', cs, fuel, p, q, hg', ht', hvar, hd, hr, _⟩ := h
  exact ⟨q, hr⟩
theorem laid_tab {P : Program} {W : World} {name : String} {k : IntKind} {zs : List Int} {rest : List (String × DataW Unit)} {g : Nat} {t e : TypeId} {n : Nat} {ps : List MemPlace}
    (hg : P.globalNamed name = some g) (hty : (P.globals[g]?).map (·.type) = some t) (ht : P.underlying t = some (.array n e)) (he : P.underlying e = some (.int k)) (hce : P.cellsOf e = 1) (hct : P.cellsOf t = n)
    (h : DataW.LaidVars P W ((name, Lib.tabData k zs) :: rest) ps) : Lib.TabIs P W name k zs := by
  obtain ⟨g', t', cs, fuel, p, q, hg', ht', hvar, hd, _, _⟩ := h
  obtain rfl := Option.some.inj (hg.symm.trans hg')
  obtain rfl := Option.some.inj (hty.symm.trans ht')
  unfold Lib.TabIs
  rw [hvar, ← Lib.cells_of_tab ht he hce hct hd]
theorem gPow : Tryd.prog.globalNamed "internal/strconv.uint64pow10" = some 0 := by kernel_rfl
theorem pow_data : (Rows.laid_internal_strconv_uint64pow10 : DataW Unit) = Lib.tabData .u64 Lib.pow10Tab := by kernel_rfl
theorem head {W : World} (h : laidMetH Tryd.prog Rows.evidenceFoldersRow.laid W) : TabW W ∧ True := by
  obtain ⟨ps, hv, _⟩ := (h : laidMet Tryd.prog Rows.evidenceFoldersRow.laid W)
  obtain ⟨_, h1⟩ := laid_tail hv
  obtain ⟨_, h2⟩ := laid_tail h1
  rw [pow_data] at h2
  have t1 := laid_tab gPow (by kernel_rfl) Tryd.underlying71 Tryd.underlying33 (by kernel_rfl) (by kernel_rfl) h2
  have c1 := t1.cell gPow 0 (by rw [Lib.pow10Tab_length]; omega)
  exact ⟨⟨World.block_lt_of_cell? W _ c1, t1⟩, trivial⟩
end Go.Proofs.YtoiddojmlhknlaaDoor
