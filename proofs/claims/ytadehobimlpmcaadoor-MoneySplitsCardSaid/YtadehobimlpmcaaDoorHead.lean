/- What the rows' list of variables gives: the tables stand in their variables. -/
import Derived.Test.YtadehobimlpmcaaDoorRows
import Derived.Test.YtadehobimlpmcaaDoorAwk
import Derived.Lib.LaidTab
namespace Go.Proofs.YtadehobimlpmcaaDoor
set_option linter.unusedVariables false
open Go.RowKit Go.ChangeShapes

theorem laid_tail {P : Program} {W : World} {x : String × DataW Unit} {rest : List (String × DataW Unit)} {ps : List MemPlace} (h : DataW.LaidVars P W (x :: rest) ps) : ∃ qs, DataW.LaidVars P W rest qs := by
  obtain ⟨g', t', cs, fuel, p, q, hg', ht', hvar, hd, hr, _⟩ := h
  exact ⟨q, hr⟩
theorem laid_tab {P : Program} {W : World} {name : String} {k : IntKind} {zs : List Int} {rest : List (String × DataW Unit)} {g : Nat} {t e : TypeId} {n : Nat} {ps : List MemPlace}
    (hg : P.globalNamed name = some g) (hty : (P.globals[g]?).map (·.type) = some t) (ht : P.underlying t = some (.array n e)) (he : P.underlying e = some (.int k)) (hce : P.cellsOf e = 1) (hct : P.cellsOf t = n)
    (h : DataW.LaidVars P W ((name, Lib.tabData k zs) :: rest) ps) : Lib.TabIs P W name k zs := by
  obtain ⟨g', t', cs, fuel, p, q, hg', ht', hvar, hd, _, _⟩ := h
  obtain rfl := Option.some.inj (hg.symm.trans hg')
  obtain rfl := Option.some.inj (hty.symm.trans ht')
  unfold Lib.TabIs
  rw [hvar, ← Lib.cells_of_tab ht he hce hct hd]
/-- The data of a table of pairs of a text and a number. -/
def pairData {H : Type} (l : List (ByteArray × Int)) : DataW H := .agg (l.map fun p => .agg [.lit (.string p.1.data.toList), .lit (.int .i64 p.2)])
theorem cells_of_pairs {H : Type} {enc : TypeId × Value → H} {P : Program} {w : World} {base : Nat} {sp : Nat → Bool} {held : Bool} {fuel : Nat} {t e ts ti : TypeId} {n : Nat} {f0 f1 : Field} {cs : List Value} {zs : List (ByteArray × Int)} {p : List MemPlace}
    (ht : P.underlying t = some (.array n e)) (he : P.underlying e = some (.struct #[f0, f1])) (h0 : P.underlying f0.type = some .string) (h1 : P.underlying f1.type = some (.int .i64)) (o0 : f0.offset = 0) (o1 : f1.offset = 1) (c0 : P.cellsOf f0.type = 1) (c1 : P.cellsOf f1.type = 1) (hce : P.cellsOf e = 2) (hct : P.cellsOf t = n * 2)
    (h : DataW.trod enc P w base sp held fuel t cs = some (pairData zs, p)) : cs = zs.flatMap fun z => [Value.string z.1, .int .i64 z.2] := by
  cases fuel with
  | zero => simp [DataW.trod] at h
  | succ fuel =>
    simp only [DataW.trod, ht, hce, hct] at h
    split at h
    · rename_i hl
      obtain ⟨xs, hm, hx⟩ := Option.map_eq_some_iff.1 h
      have hxs : xs.map (·.1) = zs.map fun p => (DataW.agg [.lit (.string p.1.data.toList), .lit (.int .i64 p.2)] : DataW H) := by
        have := congrArg Prod.fst hx
        simpa [pairData] using this
      have hxl : xs.length = n := by simpa using Lib.mapM_length hm
      have hzl : zs.length = n := by
        have := congrArg List.length hxs
        simp at this
        omega
      have key : ∀ i, (hi : i < zs.length) → (cs.drop (i * 2)).take 2 = [Value.string zs[i].1, .int .i64 zs[i].2] := by
        intro i hi
        have hin : i < n := by omega
        obtain ⟨b, hb, hf⟩ := Lib.mapM_at hm i i (by simp [hin])
        obtain ⟨y0, y1, m, rfl, hlen, g0, g1⟩ := trod_struct2 he hf
        rw [c0, o0] at g0
        rw [c1, o1] at g1
        obtain ⟨s, e0, rfl, _⟩ := DataW.trod_string h0 g0
        obtain ⟨z, e1, rfl, _⟩ := DataW.trod_int h1 g1
        have h2 : (xs.map (·.1))[i]? = some (DataW.agg [.lit (.string s.data.toList), .lit (.int .i64 z)] : DataW H) := by simp [hb]
        rw [hxs] at h2
        rw [List.getElem?_map, List.getElem?_eq_getElem hi] at h2
        simp only [Option.map_some, Option.some.injEq, DataW.agg.injEq, List.cons.injEq, DataW.lit.injEq, Lit.string.injEq, Lit.int.injEq, true_and, and_true] at h2
        have es : s = zs[i].1 := ByteArray.ext (Array.ext' h2.1.symm)
        rw [hce] at hlen
        generalize (cs.drop (i * 2)).take 2 = ys at *
        match ys, hlen with
        | [a, b], _ =>
          simp at e0 e1
          rw [e0, e1, es, h2.2]
      have flat : ∀ (zs : List (ByteArray × Int)) (cs : List Value), cs.length = zs.length * 2 → (∀ i, (hi : i < zs.length) → (cs.drop (i * 2)).take 2 = [Value.string zs[i].1, .int .i64 zs[i].2]) → cs = zs.flatMap fun z => [Value.string z.1, .int .i64 z.2] := by
        intro zs
        induction zs with
        | nil => intro cs hl _; simpa using hl
        | cons z zs ih =>
          intro cs hl hk
          match cs, hl with
          | a :: b :: cs', hl =>
            have k0 := hk 0 (by simp)
            simp at k0
            have := ih cs' (by simp at hl; omega) (fun i hi => by
              have := hk (i + 1) (by simp; omega)
              rw [show (i + 1) * 2 = i * 2 + 2 by omega] at this
              simpa using this)
            rw [List.flatMap_cons, ← this, k0.1, k0.2]; rfl
          | [a], hl => simp at hl; omega
          | [], hl => simp at hl
      exact flat zs cs (by rw [hl, hzl]) key
    · cases h
theorem gPow : Tryd.prog.globalNamed "internal/strconv.uint64pow10" = some 3 := by kernel_rfl
theorem gDec : Tryd.prog.globalNamed "cardnet/money.decimals" = some 2 := by kernel_rfl
theorem pow_data : (Rows.laid_internal_strconv_uint64pow10 : DataW Unit) = Lib.tabData .u64 Lib.pow10Tab := by kernel_rfl
theorem dec_data : (Rows.laid_cardnet_money_decimals : DataW Unit) = pairData decL := by kernel_rfl
theorem laid_dec {W : World} {rest : List (String × DataW Unit)} {ps : List MemPlace} (h : DataW.LaidVars Tryd.prog W (("cardnet/money.decimals", pairData decL) :: rest) ps) : DecW W := by
  obtain ⟨g', t', cs, fuel, p, q, hg', ht', hvar, hd, _, _⟩ := h
  obtain rfl := Option.some.inj (gDec.symm.trans hg')
  obtain rfl := Option.some.inj ((show (Tryd.prog.globals[2]?).map (·.type) = some 85 by kernel_rfl).symm.trans ht')
  have hc := cells_of_pairs (ts := 9) (ti := 3) Tryd.underlying85 Tryd.underlying84 Tryd.underlying9 Tryd.underlying3 rfl rfl (by kernel_rfl) (by kernel_rfl) (by kernel_rfl) (by kernel_rfl) hd
  unfold World.var? at hvar
  rw [gDec] at hvar
  simp only [Option.bind_some] at hvar
  cases hb : W.heap[2]? with
  | none => rw [hb] at hvar; cases hvar
  | some o =>
    have hlt : 2 < W.heap.size := by
      rcases Nat.lt_or_ge 2 W.heap.size with q | q
      · exact q
      · rw [Array.getElem?_eq_none q] at hb; cases hb
    rw [hb] at hvar
    cases o with
    | cells C T fr =>
      simp only [Option.some.injEq] at hvar
      refine ⟨hlt, T, fr, ?_⟩
      have hcc : cs = decC := by apply Array.ext'; rw [hc]; rfl
      rw [hb, hvar, hcc]
    | _ => cases hvar
theorem head {W : World} (h : laidMetH Tryd.prog Rows.moneyAddsRow.laid W) : KW W ∧ True := by
  obtain ⟨ps, hv, _⟩ := (h : laidMet Tryd.prog Rows.moneyAddsRow.laid W)
  obtain ⟨_, h1⟩ := laid_tail hv
  obtain ⟨_, h2⟩ := laid_tail h1
  obtain ⟨_, h3⟩ := laid_tail h2
  rw [pow_data] at h2
  rw [dec_data] at h3
  have t1 := laid_tab gPow (by kernel_rfl) Tryd.underlying111 Tryd.underlying48 (by kernel_rfl) (by kernel_rfl) h2
  have t2 := laid_dec h3
  have c1 := t1.cell gPow 0 (by rw [Lib.pow10Tab_length]; omega)
  exact ⟨⟨t2, ⟨World.block_lt_of_cell? W _ c1, t1⟩⟩, trivial⟩
end Go.Proofs.YtadehobimlpmcaaDoor
