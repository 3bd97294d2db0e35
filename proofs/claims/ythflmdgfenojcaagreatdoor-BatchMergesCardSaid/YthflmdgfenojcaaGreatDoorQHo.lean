/- Part of the proof over this seat. -/
import Derived.Test.YthflmdgfenojcaaGreatDoorRows
import Derived.Lib.LaidTab
import Derived.Lib.SmallJoins
import Derived.OpenShut
import Derived.Stop.LaidErr
import Derived.Shelf.Vars
import Derived.SizedLaws
import Derived.Deep.Slices
import Derived.Deep.Fields
import Derived.Test.YthflmdgfenojcaaGreatDoorQAw
import Derived.Test.YthflmdgfenojcaaGreatDoorQLTo
namespace Go.Proofs.YthflmdgfenojcaaGreatDoor
set_option linter.unusedVariables false
open Go.RowKit Go.ChangeShapes Go.WideShapes
theorem laid_tab {P : Program} {W : World} {name : String} {k : IntKind} {zs : List Int} {rest : List (String × DataW Unit)} {g : Nat} {t e : TypeId} {n : Nat} {ps : List MemPlace}
    (hg : P.globalNamed name = some g) (hty : (P.globals[g]?).map (·.type) = some t) (ht : P.underlying t = some (.array n e)) (he : P.underlying e = some (.int k)) (hce : P.cellsOf e = 1) (hct : P.cellsOf t = n)
    (h : DataW.LaidVars P W ((name, Lib.tabData k zs) :: rest) ps) : Lib.TabIs P W name k zs := by
  obtain ⟨g', t', cs, fuel, p, q, hg', ht', hvar, hd, _, _⟩ := h
  obtain rfl := Option.some.inj (hg.symm.trans hg')
  obtain rfl := Option.some.inj (hty.symm.trans ht')
  unfold Lib.TabIs
  rw [hvar, ← Lib.cells_of_tab ht he hce hct hd]
theorem gPow : Tryz.prog.globalNamed "internal/strconv.uint64pow10" = some 1 := by kernel_rfl
theorem gSyn : Tryz.prog.globalNamed "strconv.ErrSyntax" = some 4 := by kernel_rfl
theorem gRan : Tryz.prog.globalNamed "strconv.ErrRange" = some 5 := by kernel_rfl
theorem pow_data : (Rows.laid_internal_strconv_uint64pow10 : DataW Unit) = Lib.tabData .u64 Lib.pow10Tab := by kernel_rfl
theorem rowE (u : TypeId) (h : Tryz.prog.typeName? 3 u = some "*errors.errorString") : u = 231 :=
  have st : "*" ++ "errors.errorString" = "*errors.errorString" := by decide
  typeName_ptr_named (nm := "errors.errorString") (by rw [st]; kernel_rfl) (by kernel_rfl) (by decide) u (by rw [st]; exact h)
set_option maxRecDepth 100000 in
theorem head {W : World} (h : laidMetH Tryz.prog Rows.recordChecksRow.laid W) (hS : W.ShapedOpen Tryz.prog) : KW W ∧ True := by
  have hm := (h : laidMet Tryz.prog Rows.recordChecksRow.laid W)
  have h2 := hm.tail.tail
  have h4 := hm.tail.tail.tail.tail
  have h5 := h4.tail
  obtain ⟨a0, s0, hv0, hc0, hs0, hz0⟩ := laid_sentinel h4 gRan (by kernel_rfl) Tryz.underlying167 rowE Tryz.underlying231 Tryz.underlying233 rfl rfl Tryz.underlying9 (by kernel_rfl) (by kernel_rfl)
  have c3 : W.cell? ⟨5, 0, none⟩ = some (.iface 231 (.pointer (some a0))) := by simpa using World.var?_cell gRan hv0 0
  obtain ⟨a1, s1, hv1, hc1, hs1, hz1⟩ := laid_sentinel h5 gSyn (by kernel_rfl) Tryz.underlying167 rowE Tryz.underlying231 Tryz.underlying233 rfl rfl Tryz.underlying9 (by kernel_rfl) (by kernel_rfl)
  have c2 : W.cell? ⟨4, 0, none⟩ = some (.iface 231 (.pointer (some a1))) := by simpa using World.var?_cell gSyn hv1 0
  obtain ⟨ps, hv, _⟩ := h2
  have hv' : DataW.LaidVars Tryz.prog W (("internal/strconv.uint64pow10", Rows.laid_internal_strconv_uint64pow10) :: _) ps := hv
  rw [pow_data] at hv'
  have t1 := laid_tab gPow (by kernel_rfl) Tryz.underlying205 Tryz.underlying162 (by kernel_rfl) (by kernel_rfl) hv'
  have c1 := t1.cell gPow 0 (by rw [Lib.pow10Tab_length]; omega)
  obtain ⟨m, hm1⟩ := cell_of_shapedOpen_int (P := Tryz.prog) (w := W) (g := 0) (t := 3) (zero := #[.int .i64 0]) (k := .i64) hS (of_decide_eq_true (by kernel_rfl)) (by kernel_rfl) rfl (by kernel_rfl) (by kernel_rfl) Tryz.underlying3
  exact ⟨⟨⟨World.block_lt_of_cell? W _ c1, t1⟩, ⟨World.block_lt_of_cell? W _ c2, _, c2, .inr ⟨_, _, rfl⟩⟩, ⟨World.block_lt_of_cell? W _ c3, _, c3, .inr ⟨_, _, rfl⟩⟩, ⟨World.block_lt_of_cell? W _ hm1, m, hm1⟩⟩, trivial⟩
end Go.Proofs.YthflmdgfenojcaaGreatDoor
namespace Go.Proofs.YthflmdgfenojcaaGreatDoor
set_option linter.unusedVariables false
open Go.RowKit Go.ChangeShapes Go.WideShapes Go.Deep Go.Joins
theorem flat_at {α : Type} (cells : α → List Value) (n : Nat) (l : List α) (hn : ∀ x ∈ l, (cells x).length = n) (j : Nat) (v : Value) (h : (l.flatMap cells)[j]? = some v) :
    ∃ i j', ∃ hi : i < l.length, j = i * n + j' ∧ (cells l[i])[j']? = some v := by
  induction l generalizing j with
  | nil => simp at h
  | cons x l ih =>
    have hx : (cells x).length = n := hn x (by simp)
    rw [List.flatMap_cons] at h
    by_cases hj : j < n
    · rw [List.getElem?_append_left (by omega)] at h
      exact ⟨0, j, by simp, by simp, h⟩
    · rw [List.getElem?_append_right (by omega), hx] at h
      obtain ⟨i, j', hi, e, hv⟩ := ih (fun y hy => hn y (by simp [hy])) _ h
      refine ⟨i + 1, j', by simp; exact hi, ?_, by simpa using hv⟩
      rw [Nat.succ_mul]; omega
theorem weightsAll_mem {H : Type} {P : Program} {e : TypeId} {d : DataW H} {k : Nat} : ∀ {l : List (DataW H)}, d ∈ l → k ∈ d.weights P e → k ∈ DataW.weightsAll P e l
  | [], h, _ => by cases h
  | x :: l, h, hk => by
    simp only [DataW.weightsAll, List.mem_append]
    rcases List.mem_cons.1 h with rfl | h
    · exact .inl hk
    · exact .inr (weightsAll_mem h hk)
theorem slice_openW {α : Type} [Inhabited α] {H : Type} {enc : TypeId × Value → H} {P : Program} {W : World} {t e : TypeId} (cells : α → List Value) (ok : α → Prop) (n : Nat) (ht : P.underlying t = some (.slice e)) (hC : P.cellsOf e = n)
    (hread : ∀ (cs : List Value) (m : Nat) y, cs.length = n → DataW.trod enc P W 0 (fun _ => true) true m e cs = some y → (∀ k ∈ y.1.weights P e, k ≤ reachBytes) → ∃ x, cs = cells x ∧ ok x)
    {a : Option Addr} {len cap : Nat} {d : DataW H} {p : List MemPlace} (h : DataW.Trod enc P W 0 (fun _ => true) true t (.slice a len cap) d p) (hw : ∀ k ∈ d.weights P t, k ≤ reachBytes) :
    ∃ l : List α, l.length = len ∧ IsRow W a (l.flatMap cells) ∧ (∀ x ∈ l, ok x) ∧ len ≤ cap ∧ (a = none → cap = 0) ∧ cap ≤ maxLen := by
  obtain ⟨fuel, hf⟩ := h
  rcases open_slice ht hf with ⟨hcs, _⟩ | ⟨x, ln, cp, m, k, D, Pl, hcs, _, hl, hm, hmm, hx, hi⟩
  · simp [Value.cells] at hcs
    obtain ⟨rfl, rfl, rfl⟩ := hcs
    exact ⟨[], rfl, .inl rfl, by simp, by simp⟩
  · simp [Value.cells] at hcs
    obtain ⟨rfl, rfl, rfl⟩ := hcs
    simp only [if_true] at hmm
    subst hmm
    rw [hC] at hi
    have hwD : ∀ i, i < len → ∀ k ∈ (D i).weights P e, k ≤ reachBytes := fun i hi k hk => hw k (by
      injection hx with hx _
      rw [hx]
      simp only [DataW.weights, ht]
      refine List.mem_cons_of_mem _ (List.mem_append_left _ (weightsAll_mem (List.mem_map.2 ⟨i, List.mem_range.2 hi, rfl⟩) hk)))
    obtain ⟨f, hf'⟩ := choose_lt (α := α) (n := len) (p := fun i y => ok y ∧ (cells y).length = n ∧ ∀ j v, (cells y)[j]? = some v → W.cell? (x.add (i * n + j)) = some v) (fun i hil => by
      obtain ⟨cs', h1, h2⟩ := hi i (by omega)
      obtain ⟨_, hlen, hat⟩ := World.cells?_some h1
      obtain ⟨y, rfl, hy⟩ := hread cs' _ _ hlen h2 (hwD i hil)
      refine ⟨y, hy, hlen, fun j v hj => ?_⟩
      have hjl : j < n := by have := (List.getElem?_eq_some_iff.1 hj).1; omega
      have := hat j hjl
      rw [Go.Deep.add_add] at this
      rw [this, hj])
    have hlens : ∀ y ∈ (List.range len).map f, (cells y).length = n := by
      intro y hy
      obtain ⟨i, hir, rfl⟩ := List.mem_map.1 hy
      exact (hf' i (List.mem_range.1 hir)).2.1
    refine ⟨(List.range len).map f, by simp, ?_, ?_, hl, by simp, hm⟩
    · by_cases h0 : (((List.range len).map f).flatMap cells).length = 0
      · exact .inl h0
      · right
        have hall : ∀ j v, (((List.range len).map f).flatMap cells)[j]? = some v → W.cell? (x.add j) = some v := by
          intro j v hj
          obtain ⟨i, j', hil, rfl, hv⟩ := flat_at cells n _ hlens j v hj
          have hil' : i < len := by simpa using hil
          rw [List.getElem_map, List.getElem_range] at hv
          exact (hf' i hil').2.2 j' v hv
        obtain ⟨b, off, spot⟩ := x
        have hspot : spot = none := by
          have h1 := hall 0 _ (List.getElem?_eq_getElem (by omega))
          simpa [Addr.add] using World.cell?_spot h1
        subst hspot
        refine ⟨b, off, rfl, fun j v hj => ?_⟩
        have := hall j v hj
        rwa [Addr.add_lit] at this
    · intro y hy
      obtain ⟨i, hir, rfl⟩ := List.mem_map.1 hy
      exact (hf' i (List.mem_range.1 hir)).1
end Go.Proofs.YthflmdgfenojcaaGreatDoor
namespace Go.Proofs.YthflmdgfenojcaaGreatDoor
set_option linter.unusedVariables false
open Go.RowKit Go.ChangeShapes Go.WideShapes
def br64 : List Int := [0, 1, 56, 2, 57, 49, 28, 3, 61, 58, 42, 50, 38, 29, 17, 4, 62, 47, 59, 36, 45, 43, 51, 22, 53, 39, 33, 30, 24, 18, 12, 5, 63, 55, 48, 27, 60, 41, 37, 16, 46, 35, 44, 21, 52, 32, 23, 11, 54, 26, 40, 15, 34, 20, 31, 10, 25, 14, 19, 9, 13, 8, 7, 6]
theorem gBr : Tryz.prog.globalNamed "math/bits.deBruijn64tab" = some 7 := by kernel_rfl
theorem br_data : (Rows.laid_math_bits_deBruijn64tab : DataW Unit) = Lib.tabData .u8 br64 := by kernel_rfl
theorem szw {H : Type} {P : Program} {ts : List TypeId} {ds : List (DataW H)} (h : (DataW.weightsEach P ts ds).all (· ≤ reachBytes) = true) {j : Nat} {t : TypeId} {d : DataW H} (ht : ts[j]? = some t) (hd : ds[j]? = some d) : ∀ k ∈ d.weights P t, k ≤ reachBytes := fun k hk => by
  have := List.all_eq_true.1 h _ (DataW.weights_mem_each ht hd k hk)
  simpa using this
set_option maxRecDepth 100000 in
theorem headB {W : World} (h : laidMetH Tryz.prog Rows.batchTotalsRow.laid W) (hS : W.ShapedOpen Tryz.prog) : BW W ∧ True := by
  have hk := head (W := W) h hS
  refine ⟨⟨hk.1, ?_⟩, trivial⟩
  have hm := (h : laidMet Tryz.prog Rows.batchTotalsRow.laid W)
  have h1 := hm.tail
  obtain ⟨ps, hv, _⟩ := h1
  have hv' : DataW.LaidVars Tryz.prog W (("math/bits.deBruijn64tab", Rows.laid_math_bits_deBruijn64tab) :: _) ps := hv
  rw [br_data] at hv'
  have t1 := laid_tab gBr (by kernel_rfl) Tryz.underlying230 Tryz.underlying5 (by kernel_rfl) (by kernel_rfl) hv'
  exact t1.cell gBr 15 (by decide)
end Go.Proofs.YthflmdgfenojcaaGreatDoor
