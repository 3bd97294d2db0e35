/- What the rows' list of variables gives: the tables stand in their variables. -/
import Derived.Test.YtijceaapfbpfcaaDoorRows
import Derived.Test.YtijceaapfbpfcaaDoorFmt
import Derived.Lib.LaidTab
namespace Go.Proofs.YtijceaapfbpfcaaDoor
set_option linter.unusedVariables false
open Go.RowKit

theorem laid_tail {P : Program} {W : World} {x : String × DataW Unit} {rest : List (String × DataW Unit)} {ps : List MemPlace} (h : DataW.LaidVars P W (x :: rest) ps) : ∃ qs, DataW.LaidVars P W rest qs := by
  obtain ⟨g', t', cs, fuel, p, q, hg', ht', hvar, hd, hr, _⟩ := h
  exact ⟨q, hr⟩
theorem laid_tab {P : Program} {W : World} {name : String} {k : IntKind} {zs : List Int} {rest : List (String × DataW Unit)} {g : Nat} {t e : TypeId} {n : Nat} {ps : List MemPlace}
    (hg : P.globalNamed name = some g) (hty : (P.globals[g]?).map (·.type) = some t) (ht : P.underlying t = some (.array n e)) (he : P.underlying e = some (.int k)) (hce : P.cellsOf e = 1) (hct : P.cellsOf t = n)
    (h : DataW.LaidVars P W ((name, Lib.tabData k zs) :: rest) ps) : Lib.TabIs P W name k zs := by
  obtain ⟨g', t', cs, fuel, p, q, hg', ht', hvar, hd, _, _⟩ := h
  obtain rfl := Option.some.inj (hg.symm.trans hg')
  obtain rfl := Option.some.inj (hty.symm.trans ht')
  unfold Lib.TabIs
  rw [hvar, ← Lib.cells_of_tab ht he hce hct hd]
theorem gPow : Tryd.prog.globalNamed "internal/strconv.uint64pow10" = some 1 := by kernel_rfl
theorem gMon : Tryd.prog.globalNamed "cardnet/calendar.monthDays" = some 0 := by kernel_rfl
theorem pow_data : (Rows.laid_internal_strconv_uint64pow10 : DataW Unit) = Lib.tabData .u64 Lib.pow10Tab := by kernel_rfl
theorem head {W : World} (h : laidMetH Tryd.prog Rows.calendarPartsRow.laid W) : MD W ∧ TabW W := by
  obtain ⟨ps, hv, _⟩ := (h : laidMet Tryd.prog Rows.calendarPartsRow.laid W)
  obtain ⟨_, h1⟩ := laid_tail hv
  obtain ⟨_, h2⟩ := laid_tail h1
  obtain ⟨_, h3⟩ := laid_tail h2
  rw [pow_data] at h2
  have t1 := laid_tab gPow (by kernel_rfl) Tryd.underlying60 Tryd.underlying53 (by kernel_rfl) (by kernel_rfl) h2
  have t2 : Lib.TabIs Tryd.prog W "cardnet/calendar.monthDays" .i64 [31, 28, 31, 30, 31, 30, 31, 31, 30, 31, 30, 31] :=
    laid_tab gMon (by kernel_rfl) Tryd.underlying50 Tryd.underlying3 (by kernel_rfl) (by kernel_rfl) h3
  have c1 := t1.cell gPow 0 (by rw [Lib.pow10Tab_length]; omega)
  have c2 : ∀ i : Nat, i < 12 → W.cell? ⟨0, i, none⟩ = some (.int .i64 (([31, 28, 31, 30, 31, 30, 31, 31, 30, 31, 30, 31] : List Int).getD i 0)) := fun i hi => t2.cell gMon i hi
  refine ⟨⟨World.block_lt_of_cell? W _ (c2 0 (by omega)), fun i hi => ?_⟩, World.block_lt_of_cell? W _ c1, t1⟩
  rw [c2 i hi]
  match i, hi with
  | 0, _ => rfl
  | 1, _ => rfl
  | 2, _ => rfl
  | 3, _ => rfl
  | 4, _ => rfl
  | 5, _ => rfl
  | 6, _ => rfl
  | 7, _ => rfl
  | 8, _ => rfl
  | 9, _ => rfl
  | 10, _ => rfl
  | 11, _ => rfl
end Go.Proofs.YtijceaapfbpfcaaDoor
