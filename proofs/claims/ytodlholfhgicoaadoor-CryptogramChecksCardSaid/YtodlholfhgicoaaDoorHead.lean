/- What the rows' list of variables gives: the tables stand in their variables; how a payment is opened. -/
import Derived.Test.YtodlholfhgicoaaDoorRows
import Derived.Test.YtodlholfhgicoaaDoorLNob
import Derived.Lib.LaidTab
import Derived.Lib.SmallJoins
import Derived.OpenShut
namespace Go.Proofs.YtodlholfhgicoaaDoor
set_option linter.unusedVariables false
open Go.RowKit Go.ChangeShapes Go.WideShapes

theorem laid_tail {P : Program} {W : World} {x : String × DataW Unit} {rest : List (String × DataW Unit)} {ps : List MemPlace} (h : DataW.LaidVars P W (x :: rest) ps) : ∃ qs, DataW.LaidVars P W rest qs := by
  obtain ⟨g', t', cs, fuel, p, q, hg', ht', hvar, hd, hr, _⟩ := h
  exact ⟨q, hr⟩
theorem laid_tab {P : Program} {W : World} {name : String} {k : IntKind} {zs : List Int} {rest : List (String × DataW Unit)} {g : Nat} {t e : TypeId} {n : Nat} {ps : List MemPlace}
    (hg : P.globalNamed name = some g) (hty : (P.globals[g]?).map (·.type) = some t) (ht : P.underlying t = some (.array n e)) (he : P.underlying e = some (.int k)) (hce : P.cellsOf e = 1) (hct : P.cellsOf t = n)
    (h : DataW.LaidVars P W ((name, Lib.tabData k zs) :: rest) ps) : Lib.TabIs P W name k zs := by
  obtain ⟨g', t', cs, fuel, p, q, hg', ht', hvar, hd, _, _⟩ := h
  obtain rfl := Option.some.inj (hg.symm.trans hg')
  obtain rfl := Option.some.inj (hty.symm.trans ht')
  unfold Lib.TabIs
  rw [hvar, ← Lib.cells_of_tab ht he hce hct hd]
theorem gPow : Tryd.prog.globalNamed "internal/strconv.uint64pow10" = some 0 := by kernel_rfl
theorem gBr : Tryd.prog.globalNamed "math/bits.deBruijn64tab" = some 2 := by kernel_rfl
theorem pow_data : (Rows.laid_internal_strconv_uint64pow10 : DataW Unit) = Lib.tabData .u64 Lib.pow10Tab := by kernel_rfl
def br64 : List Int := [0, 1, 56, 2, 57, 49, 28, 3, 61, 58, 42, 50, 38, 29, 17, 4, 62, 47, 59, 36, 45, 43, 51, 22, 53, 39, 33, 30, 24, 18, 12, 5, 63, 55, 48, 27, 60, 41, 37, 16, 46, 35, 44, 21, 52, 32, 23, 11, 54, 26, 40, 15, 34, 20, 31, 10, 25, 14, 19, 9, 13, 8, 7, 6]
theorem br_data : (Rows.laid_math_bits_deBruijn64tab : DataW Unit) = Lib.tabData .u8 br64 := by kernel_rfl
theorem head {W : World} (h : laidMetH Tryd.prog Rows.cryptogramNobodyRow.laid W) : KW W ∧ True := by
  have hm := (h : laidMet Tryd.prog Rows.cryptogramNobodyRow.laid W)
  obtain ⟨ps, hv, _⟩ := hm
  obtain ⟨_, h1⟩ := laid_tail hv
  obtain ⟨_, h2⟩ := laid_tail h1
  rw [br_data] at h1
  rw [pow_data] at h2
  have t1 := laid_tab gPow (by kernel_rfl) Tryd.underlying108 Tryd.underlying22 (by kernel_rfl) (by kernel_rfl) h2
  have t2 := laid_tab gBr (by kernel_rfl) Tryd.underlying123 Tryd.underlying5 (by kernel_rfl) (by kernel_rfl) h1
  have c1 := t1.cell gPow 0 (by rw [Lib.pow10Tab_length]; omega)
  have c2 := t2.cell gBr 15 (by decide)
  exact ⟨⟨⟨World.block_lt_of_cell? W _ c1, t1⟩, World.block_lt_of_cell? W _ c2, c2⟩, trivial⟩
section
variable {H : Type} {enc : TypeId × Value → H} {P : Program} {w : World} {base : Nat} {spare : Nat → Bool} {held : Bool}
theorem trod_struct6 {t : TypeId} {f0 f1 f2 f3 f4 f5 : Field} {fuel : Nat} {cs : List Value} {x : DataW H × List MemPlace} (ht : P.underlying t = some (.struct #[f0, f1, f2, f3, f4, f5])) (h : DataW.trod enc P w base spare held fuel t cs = some x) :
    ∃ y0 y1 y2 y3 y4 y5 n, DataW.trod enc P w base spare held n f0.type ((cs.drop f0.offset).take (P.cellsOf f0.type)) = some y0 ∧
      DataW.trod enc P w base spare held n f1.type ((cs.drop f1.offset).take (P.cellsOf f1.type)) = some y1 ∧ DataW.trod enc P w base spare held n f2.type ((cs.drop f2.offset).take (P.cellsOf f2.type)) = some y2 ∧
      DataW.trod enc P w base spare held n f3.type ((cs.drop f3.offset).take (P.cellsOf f3.type)) = some y3 ∧ DataW.trod enc P w base spare held n f4.type ((cs.drop f4.offset).take (P.cellsOf f4.type)) = some y4 ∧
      DataW.trod enc P w base spare held n f5.type ((cs.drop f5.offset).take (P.cellsOf f5.type)) = some y5 := by
  obtain ⟨xs, n, _, rfl, hl, hlen, hf⟩ := DataW.trod_struct ht h
  match xs, hlen with
  | [y0, y1, y2, y3, y4, y5], _ => exact ⟨y0, y1, y2, y3, y4, y5, n, by simpa using hf 0 f0 rfl, by simpa using hf 1 f1 rfl, by simpa using hf 2 f2 rfl, by simpa using hf 3 f3 rfl, by simpa using hf 4 f4 rfl, by simpa using hf 5 f5 rfl⟩
end
theorem int_wf64 {n : Int} (h : (Lit.int .i64 n).wf = true) : -9223372036854775808 ≤ n ∧ n < 9223372036854775808 := by
  simp [Lit.wf] at h
  have e : IntKind.i64.min = -9223372036854775808 := by decide
  rw [e] at h
  omega
theorem cells26 : Tryd.prog.cellsOf 26 = 7 := by kernel_rfl
set_option maxRecDepth 100000 in
theorem pay_open {H : Type} {enc : TypeId × Value → H} {W : World} {r : Reach} {b0 : Nat} {v : Value} {d : DataW H} {p : List MemPlace} (hv : Value.okWide Tryd.prog W r b0 26 v) (h : DataW.Trod enc Tryd.prog W 0 (fun _ => true) true 26 v d p) :
    ∃ x : ByteArray × Int × Int × ByteArray × ByteArray × ByteArray × Bool, v = .agg (payC x.1 x.2.1 x.2.2.1 x.2.2.2.1 x.2.2.2.2.1 x.2.2.2.2.2.1 x.2.2.2.2.2.2) ∧ PayOk x := by
  obtain ⟨cs, rfl, hsz⟩ := okWide_struct Tryd.underlying26 hv
  obtain ⟨fuel, hf⟩ := h
  have hc : cs.toList.length = 7 := by rw [Array.length_toList, hsz]; exact cells26
  obtain ⟨l⟩ := cs
  match l, hc with
  | [c0, c1, c2, c3, c4, c5, c6], _ =>
    obtain ⟨y0, y1, y2, y3, y4, y5, n, h0, h1, h2, h3, h4, h5⟩ := trod_struct6 Tryd.underlying26 (by simpa [Value.cells] using hf)
    have k9 : Tryd.prog.cellsOf 9 = 1 := by kernel_rfl
    have k2 : Tryd.prog.cellsOf 2 = 1 := by kernel_rfl
    have k3 : Tryd.prog.cellsOf 3 = 1 := by kernel_rfl
    have k24 : Tryd.prog.cellsOf 24 = 2 := by kernel_rfl
    obtain ⟨s0, e0, _, w0⟩ := DataW.trod_string Tryd.underlying9 (show DataW.trod enc Tryd.prog W 0 (fun _ => true) true n 9 [c0] = some y0 by simpa [k9] using h0)
    obtain ⟨s1, e1, _, w1⟩ := DataW.trod_int Tryd.underlying3 (show DataW.trod enc Tryd.prog W 0 (fun _ => true) true n 3 [c1] = some y1 by simpa [k3] using h1)
    obtain ⟨z0, z1, m, _, _, g0, g1⟩ := trod_struct2 Tryd.underlying24 (show DataW.trod enc Tryd.prog W 0 (fun _ => true) true n 24 [c2, c3] = some y2 by simpa [k24] using h2)
    obtain ⟨s2, e2, _, w2⟩ := DataW.trod_int Tryd.underlying2 (show DataW.trod enc Tryd.prog W 0 (fun _ => true) true m 2 [c2] = some z0 by simpa [k2] using g0)
    obtain ⟨s3, e3, _, w3⟩ := DataW.trod_string Tryd.underlying9 (show DataW.trod enc Tryd.prog W 0 (fun _ => true) true m 9 [c3] = some z1 by simpa [k9] using g1)
    obtain ⟨s4, e4, _, w4⟩ := DataW.trod_string Tryd.underlying9 (show DataW.trod enc Tryd.prog W 0 (fun _ => true) true n 9 [c4] = some y3 by simpa [k9] using h3)
    obtain ⟨s5, e5, _, w5⟩ := DataW.trod_string Tryd.underlying9 (show DataW.trod enc Tryd.prog W 0 (fun _ => true) true n 9 [c5] = some y4 by simpa [k9] using h4)
    have k4 : Tryd.prog.cellsOf 4 = 1 := by kernel_rfl
    obtain ⟨s6, e6, _⟩ := DataW.trod_bool Tryd.underlying4 (show DataW.trod enc Tryd.prog W 0 (fun _ => true) true n 4 [c6] = some y5 by simpa [k4] using h5)
    injection e6 with e6
    subst e6
    injection e0 with e0; injection e1 with e1; injection e2 with e2; injection e3 with e3; injection e4 with e4; injection e5 with e5
    subst e0 e1 e2 e3 e4 e5
    exact ⟨(s0, s1, s2, s3, s4, s5, s6), rfl, w0, w3, w4, w5, int_wf64 w1⟩
end Go.Proofs.YtodlholfhgicoaaDoor
