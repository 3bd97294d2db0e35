/- What the rows' list of variables gives; how a record is opened. -/
import Derived.Test.YthflmdgfenojcaaGreatDoorRows
import Derived.Test.YthflmdgfenojcaaGreatDoorAwk
import Derived.Lib.LaidTab
import Derived.Lib.SmallJoins
import Derived.OpenShut
import Derived.Stop.LaidErr
import Derived.Shelf.Vars
namespace Go.Proofs.YthflmdgfenojcaaGreatDoor
set_option linter.unusedVariables false
open Go.RowKit Go.ChangeShapes Go.WideShapes

theorem laid_tab {P : Program} {W : World} {name : String} {k : IntKind} {zs : List Int} {rest : List (String × DataW Unit)} {g : Nat} {t e : TypeId} {n : Nat} {ps : List MemPlace}
    (hg : P.globalNamed name = some g) (hty : (P.globals[g]?).map (·.type) = some t) (ht : P.underlying t = some (.array n e)) (he : P.underlying e = some (.int k)) (hce : P.cellsOf e = 1) (hct : P.cellsOf t = n)
    (h : DataW.LaidVars P W ((name, Lib.tabData k zs) :: rest) ps) : Lib.TabIs P W name k zs := by
  obtain ⟨g', t', cs, fuel, p, q, hg', ht', hvar, hd, _, _⟩ := h
  obtain rfl := Option.some.inj (hg.symm.trans hg')
  obtain rfl := Option.some.inj (hty.symm.trans ht')
  unfold Lib.TabIs
  rw [hvar, ← Lib.cells_of_tab ht he hce hct hd]
theorem gPow : Tryz.prog.globalNamed "internal/strconv.uint64pow10" = some 1 := by kernel_rfl
theorem gSyn : Tryz.prog.globalNamed "strconv.ErrSyntax" = some 4 := by kernel_rfl
theorem gRan : Tryz.prog.globalNamed "strconv.ErrRange" = some 5 := by kernel_rfl
theorem pow_data : (Rows.laid_internal_strconv_uint64pow10 : DataW Unit) = Lib.tabData .u64 Lib.pow10Tab := by kernel_rfl
theorem rowE (u : TypeId) (h : Tryz.prog.typeName? 3 u = some "*errors.errorString") : u = 231 :=
  have st : "*" ++ "errors.errorString" = "*errors.errorString" := by decide
  typeName_ptr_named (nm := "errors.errorString") (by rw [st]; kernel_rfl) (by kernel_rfl) (by decide) u (by rw [st]; exact h)
set_option maxRecDepth 100000 in
theorem head {W : World} (h : laidMetH Tryz.prog Rows.recordChecksRow.laid W) (hS : W.ShapedOpen Tryz.prog) : KW W ∧ True := by
  have hm := (h : laidMet Tryz.prog Rows.recordChecksRow.laid W)
  have h2 := hm.tail.tail
  have h4 := hm.tail.tail.tail.tail
  have h5 := h4.tail
  obtain ⟨a0, s0, hv0, hc0, hs0, hz0⟩ := laid_sentinel h4 gRan (by kernel_rfl) Tryz.underlying167 rowE Tryz.underlying231 Tryz.underlying233 rfl rfl Tryz.underlying9 (by kernel_rfl) (by kernel_rfl)
  have c3 : W.cell? ⟨5, 0, none⟩ = some (.iface 231 (.pointer (some a0))) := by simpa using World.var?_cell gRan hv0 0
  obtain ⟨a1, s1, hv1, hc1, hs1, hz1⟩ := laid_sentinel h5 gSyn (by kernel_rfl) Tryz.underlying167 rowE Tryz.underlying231 Tryz.underlying233 rfl rfl Tryz.underlying9 (by kernel_rfl) (by kernel_rfl)
  have c2 : W.cell? ⟨4, 0, none⟩ = some (.iface 231 (.pointer (some a1))) := by simpa using World.var?_cell gSyn hv1 0
  obtain ⟨ps, hv, _⟩ := h2
  have hv' : DataW.LaidVars Tryz.prog W (("internal/strconv.uint64pow10", Rows.laid_internal_strconv_uint64pow10) :: _) ps := hv
  rw [pow_data] at hv'
  have t1 := laid_tab gPow (by kernel_rfl) Tryz.underlying205 Tryz.underlying162 (by kernel_rfl) (by kernel_rfl) hv'
  have c1 := t1.cell gPow 0 (by rw [Lib.pow10Tab_length]; omega)
  obtain ⟨m, hm1⟩ := cell_of_shapedOpen_int (P := Tryz.prog) (w := W) (g := 0) (t := 3) (zero := #[.int .i64 0]) (k := .i64) hS (of_decide_eq_true (by kernel_rfl)) (by kernel_rfl) rfl (by kernel_rfl) (by kernel_rfl) Tryz.underlying3
  exact ⟨⟨⟨World.block_lt_of_cell? W _ c1, t1⟩, ⟨World.block_lt_of_cell? W _ c2, _, c2, .inr ⟨_, _, rfl⟩⟩, ⟨World.block_lt_of_cell? W _ c3, _, c3, .inr ⟨_, _, rfl⟩⟩, ⟨World.block_lt_of_cell? W _ hm1, m, hm1⟩⟩, trivial⟩
theorem cells25 : Tryz.prog.cellsOf 57 = 12 := by kernel_rfl
theorem rec_read {H : Type} {enc : TypeId × Value → H} {W : World} (cs : List Value) (m : Nat) (y) (hl : cs.length = 12) (h : DataW.trod enc Tryz.prog W 0 (fun _ => true) true m 57 cs = some y) :
    ∃ r : Rec, cs = r.cells.toList ∧ r.Fit ∧ (Lit.int .i64 r.k).wf = true ∧ (Lit.int .i64 r.a).wf = true ∧ (Lit.int .i64 r.d).wf = true ∧ (Lit.int .i64 r.c).wf = true := by
  match cs, hl with
  | [c0, c1, c2, c3, c4, c5, c6, c7, c8, c9, c10, c11], _ =>
    obtain ⟨xs, n, _, rfl, hxl, hlen, hf⟩ := DataW.trod_struct Tryz.underlying57 h
    match xs, hlen with
    | [y0, y1, y2, y3, y4, y5, y6, y7, y8, y9, y10], _ =>
      have k9 : Tryz.prog.cellsOf 9 = 1 := by kernel_rfl
      have k2 : Tryz.prog.cellsOf 2 = 1 := by kernel_rfl
      have k3 : Tryz.prog.cellsOf 3 = 1 := by kernel_rfl
      have k4 : Tryz.prog.cellsOf 4 = 1 := by kernel_rfl
      have k23 : Tryz.prog.cellsOf 55 = 2 := by kernel_rfl
      obtain ⟨s0, e0, _, w0⟩ := DataW.trod_int Tryz.underlying3 (show DataW.trod enc Tryz.prog W 0 (fun _ => true) true n 3 [c0] = some y0 by simpa [k3] using hf 0 _ rfl)
      obtain ⟨s1, e1, _, w1⟩ := DataW.trod_string Tryz.underlying9 (show DataW.trod enc Tryz.prog W 0 (fun _ => true) true n 9 [c1] = some y1 by simpa [k9] using hf 1 _ rfl)
      obtain ⟨s2, e2, _, w2⟩ := DataW.trod_string Tryz.underlying9 (show DataW.trod enc Tryz.prog W 0 (fun _ => true) true n 9 [c2] = some y2 by simpa [k9] using hf 2 _ rfl)
      obtain ⟨s3, e3, _, w3⟩ := DataW.trod_string Tryz.underlying9 (show DataW.trod enc Tryz.prog W 0 (fun _ => true) true n 9 [c3] = some y3 by simpa [k9] using hf 3 _ rfl)
      obtain ⟨s4, e4, _, w4⟩ := DataW.trod_string Tryz.underlying9 (show DataW.trod enc Tryz.prog W 0 (fun _ => true) true n 9 [c4] = some y4 by simpa [k9] using hf 4 _ rfl)
      obtain ⟨s5, e5, _, w5⟩ := DataW.trod_string Tryz.underlying9 (show DataW.trod enc Tryz.prog W 0 (fun _ => true) true n 9 [c5] = some y5 by simpa [k9] using hf 5 _ rfl)
      obtain ⟨s6, e6, _, w6⟩ := DataW.trod_string Tryz.underlying9 (show DataW.trod enc Tryz.prog W 0 (fun _ => true) true n 9 [c6] = some y6 by simpa [k9] using hf 6 _ rfl)
      obtain ⟨z0, z1, m', _, _, g0, g1⟩ := trod_struct2 Tryz.underlying55 (show DataW.trod enc Tryz.prog W 0 (fun _ => true) true n 55 [c7, c8] = some y7 by simpa [k23] using hf 7 _ rfl)
      obtain ⟨s7, e7, _, w7⟩ := DataW.trod_int Tryz.underlying2 (show DataW.trod enc Tryz.prog W 0 (fun _ => true) true m' 2 [c7] = some z0 by simpa [k2] using g0)
      obtain ⟨s8, e8, _, w8⟩ := DataW.trod_string Tryz.underlying9 (show DataW.trod enc Tryz.prog W 0 (fun _ => true) true m' 9 [c8] = some z1 by simpa [k9] using g1)
      obtain ⟨s9, e9, _, w9⟩ := DataW.trod_int Tryz.underlying3 (show DataW.trod enc Tryz.prog W 0 (fun _ => true) true n 3 [c9] = some y8 by simpa [k3] using hf 8 _ rfl)
      obtain ⟨s10, e10, _, w10⟩ := DataW.trod_int Tryz.underlying3 (show DataW.trod enc Tryz.prog W 0 (fun _ => true) true n 3 [c10] = some y9 by simpa [k3] using hf 9 _ rfl)
      obtain ⟨s11, e11, _⟩ := DataW.trod_bool Tryz.underlying4 (show DataW.trod enc Tryz.prog W 0 (fun _ => true) true n 4 [c11] = some y10 by simpa [k4] using hf 10 _ rfl)
      injection e0 with e0; injection e1 with e1; injection e2 with e2; injection e3 with e3; injection e4 with e4; injection e5 with e5; injection e6 with e6; injection e7 with e7; injection e8 with e8; injection e9 with e9; injection e10 with e10; injection e11 with e11
      subst e0 e1 e2 e3 e4 e5 e6 e7 e8 e9 e10 e11
      exact ⟨⟨s0, s1, s2, s3, s4, s5, s6, s7, s8, s9, s10, s11⟩, rfl, ⟨w1, w2, w3, w4, w5, w6, w8⟩, w0, w7, w9, w10⟩
set_option maxRecDepth 100000 in
theorem rec_open {H : Type} {enc : TypeId × Value → H} {W : World} {r : Reach} {b0 : Nat} {v : Value} {d : DataW H} {p : List MemPlace} (hv : Value.okWide Tryz.prog W r b0 57 v) (h : DataW.Trod enc Tryz.prog W 0 (fun _ => true) true 57 v d p) :
    ∃ x : Rec, v = x.val ∧ x.Fit := by
  obtain ⟨cs, rfl, hsz⟩ := okWide_struct Tryz.underlying57 hv
  obtain ⟨fuel, hf⟩ := h
  have hc : cs.toList.length = 12 := by rw [Array.length_toList, hsz]; exact cells25
  obtain ⟨x, hx, hok, _⟩ := rec_read cs.toList fuel _ hc (by simpa [Value.cells] using hf)
  refine ⟨x, ?_, hok⟩
  unfold Rec.val
  rw [Array.toList_inj.1 hx]
end Go.Proofs.YthflmdgfenojcaaGreatDoor
