/- Arguments that are slices, opened as lists. -/
import Derived.Test.YtfhiepcjkocnlaaSpn
import Derived.Test.YtfhiepcjkocnlaaWhl
import Derived.Deep.Slices
import Derived.Deep.Fields
import Derived.Lib.SmallJoins
namespace Go.Proofs.Ytfhiepcjkocnlaa
set_option linter.unusedVariables false
open Go.RowKit Go.Maps Go.ChangeShapes Go.WideShapes Go.Deep Go.Joins

theorem flat_at {α : Type} (cells : α → List Value) (n : Nat) (l : List α) (hn : ∀ x ∈ l, (cells x).length = n) (j : Nat) (v : Value) (h : (l.flatMap cells)[j]? = some v) :
    ∃ i j', ∃ hi : i < l.length, j = i * n + j' ∧ (cells l[i])[j']? = some v := by
  induction l generalizing j with
  | nil => simp at h
  | cons x l ih =>
    have hx : (cells x).length = n := hn x (by simp)
    rw [List.flatMap_cons] at h
    by_cases hj : j < n
    · rw [List.getElem?_append_left (by omega)] at h
      exact ⟨0, j, by simp, by simp, h⟩
    · rw [List.getElem?_append_right (by omega), hx] at h
      obtain ⟨i, j', hi, e, hv⟩ := ih (fun y hy => hn y (by simp [hy])) _ h
      refine ⟨i + 1, j', by simp; exact hi, ?_, by simpa using hv⟩
      rw [Nat.succ_mul]; omega
theorem flat_length {α : Type} (cells : α → List Value) (n : Nat) (l : List α) (hn : ∀ x ∈ l, (cells x).length = n) : (l.flatMap cells).length = l.length * n := by
  induction l with
  | nil => simp
  | cons x l ih => rw [List.flatMap_cons, List.length_append, ih (fun y hy => hn y (by simp [hy])), hn x (by simp), List.length_cons, Nat.succ_mul]; omega
theorem slice_open {α : Type} [Inhabited α] {H : Type} {enc : TypeId × Value → H} {P : Program} {W : World} {t e : TypeId} (cells : α → List Value) (ok : α → Prop) (n : Nat) (ht : P.underlying t = some (.slice e)) (hC : P.cellsOf e = n)
    (hread : ∀ (cs : List Value) (m : Nat) y, cs.length = n → DataW.trod enc P W 0 (fun _ => true) true m e cs = some y → ∃ x, cs = cells x ∧ ok x)
    {a : Option Addr} {len cap : Nat} {d : DataW H} {p : List MemPlace} (h : DataW.Trod enc P W 0 (fun _ => true) true t (.slice a len cap) d p) :
    ∃ l : List α, l.length = len ∧ IsRow W a (l.flatMap cells) ∧ (∀ x ∈ l, ok x) ∧ len ≤ cap ∧ (a = none → cap = 0) ∧ cap ≤ maxLen := by
  obtain ⟨fuel, hf⟩ := h
  rcases open_slice ht hf with ⟨hcs, _⟩ | ⟨x, ln, cp, m, k, D, Pl, hcs, _, hl, hm, hmm, _, hi⟩
  · simp [Value.cells] at hcs
    obtain ⟨rfl, rfl, rfl⟩ := hcs
    exact ⟨[], rfl, .inl rfl, by simp, by simp⟩
  · simp [Value.cells] at hcs
    obtain ⟨rfl, rfl, rfl⟩ := hcs
    simp only [if_true] at hmm
    subst hmm
    rw [hC] at hi
    obtain ⟨f, hf'⟩ := choose_lt (α := α) (n := len) (p := fun i y => ok y ∧ (cells y).length = n ∧ ∀ j v, (cells y)[j]? = some v → W.cell? (x.add (i * n + j)) = some v) (fun i hil => by
      obtain ⟨cs', h1, h2⟩ := hi i (by omega)
      obtain ⟨_, hlen, hat⟩ := World.cells?_some h1
      obtain ⟨y, rfl, hy⟩ := hread cs' _ _ hlen h2
      refine ⟨y, hy, hlen, fun j v hj => ?_⟩
      have hjl : j < n := by have := (List.getElem?_eq_some_iff.1 hj).1; omega
      have := hat j hjl
      rw [Go.Deep.add_add] at this
      rw [this, hj])
    have hlens : ∀ y ∈ (List.range len).map f, (cells y).length = n := by
      intro y hy
      obtain ⟨i, hir, rfl⟩ := List.mem_map.1 hy
      exact (hf' i (List.mem_range.1 hir)).2.1
    refine ⟨(List.range len).map f, by simp, ?_, ?_, hl, by simp, hm⟩
    · by_cases h0 : (((List.range len).map f).flatMap cells).length = 0
      · exact .inl h0
      · right
        have hall : ∀ j v, (((List.range len).map f).flatMap cells)[j]? = some v → W.cell? (x.add j) = some v := by
          intro j v hj
          obtain ⟨i, j', hil, rfl, hv⟩ := flat_at cells n _ hlens j v hj
          have hil' : i < len := by simpa using hil
          rw [List.getElem_map, List.getElem_range] at hv
          exact (hf' i hil').2.2 j' v hv
        obtain ⟨b, off, spot⟩ := x
        have hspot : spot = none := by
          have h1 := hall 0 _ (List.getElem?_eq_getElem (by omega))
          simpa [Addr.add] using World.cell?_spot h1
        subst hspot
        refine ⟨b, off, rfl, fun j v hj => ?_⟩
        have := hall j v hj
        rwa [Addr.add_lit] at this
    · intro y hy
      obtain ⟨i, hir, rfl⟩ := List.mem_map.1 hy
      exact (hf' i (List.mem_range.1 hir)).1
/-- A slice of texts. -/
theorem strs_open {H : Type} {enc : TypeId × Value → H} {P : Program} {W : World} {t e : TypeId} (ht : P.underlying t = some (.slice e)) (he : P.underlying e = some .string) (hC : P.cellsOf e = 1)
    {a : Option Addr} {len cap : Nat} {d : DataW H} {p : List MemPlace} (h : DataW.Trod enc P W 0 (fun _ => true) true t (.slice a len cap) d p) :
    ∃ l : List ByteArray, l.length = len ∧ IsRow W a (l.map .string) ∧ (∀ s ∈ l, s.size ≤ maxLen) ∧ len ≤ cap ∧ (a = none → cap = 0) ∧ cap ≤ maxLen := by
  haveI : Inhabited ByteArray := ⟨ByteArray.empty⟩
  obtain ⟨l, h1, h2, h3⟩ := slice_open (α := ByteArray) (fun s => [.string s]) (fun s => s.size ≤ maxLen) 1 ht hC (fun cs m y hl hy => by
    obtain ⟨s, rfl, _, hs⟩ := DataW.trod_string he hy
    exact ⟨s, rfl, hs⟩) h
  refine ⟨l, h1, ?_, h3⟩
  have e : ∀ l : List ByteArray, l.flatMap (fun s => [Value.string s]) = l.map .string := by intro l; induction l <;> simp_all
  rw [e] at h2; exact h2
/-- The cells of a tier. -/
theorem tier_read {H : Type} {enc : TypeId × Value → H} {W : World} (cs : List Value) (m : Nat) (y) (hl : cs.length = 2) (h : DataW.trod enc Try.prog W 0 (fun _ => true) true m 51 cs = some y) :
    ∃ x : Tr, cs = trCells x ∧ (Lit.int .i64 x.f).wf = true ∧ (Lit.int .i64 x.p).wf = true := by
  obtain ⟨c0, c1, rfl⟩ : ∃ c0 c1, cs = [c0, c1] := by
    match cs, hl with
    | [a, b], _ => exact ⟨a, b, rfl⟩
  obtain ⟨y0, y1, n, hx, _, h0, h1⟩ := trod_struct2 Try.underlying51 h
  have k2 : Try.prog.cellsOf 2 = 1 := by kernel_rfl
  obtain ⟨a, e1, _, ha⟩ := DataW.trod_int Try.underlying2 (show DataW.trod enc Try.prog W 0 (fun _ => true) true n 2 [c0] = some y0 by simpa [k2] using h0)
  obtain ⟨b, e2, _, hb⟩ := DataW.trod_int Try.underlying2 (show DataW.trod enc Try.prog W 0 (fun _ => true) true n 2 [c1] = some y1 by simpa [k2] using h1)
  injection e1 with e1; injection e2 with e2
  subst e1; subst e2
  exact ⟨⟨a, b⟩, rfl, ha, hb⟩
theorem wf_i64 {n : Int} (h : (Lit.int .i64 n).wf = true) : -9223372036854775808 ≤ n ∧ n ≤ 9223372036854775807 := by
  simp [Lit.wf, IntKind.min, IntKind.max, IntKind.bits, IntKind.signed] at h
  omega
theorem tiers_open {H : Type} {enc : TypeId × Value → H} {W : World} {a : Option Addr} {len cap : Nat} {d : DataW H} {p : List MemPlace} (h : DataW.Trod enc Try.prog W 0 (fun _ => true) true 22 (.slice a len cap) d p) :
    ∃ l : List Tr, l.length = len ∧ IsRow W a (cellsT l) ∧ (∀ x ∈ l, (Lit.int .i64 x.f).wf = true ∧ (Lit.int .i64 x.p).wf = true) ∧ len ≤ cap ∧ (a = none → cap = 0) ∧ cap ≤ maxLen :=
  slice_open trCells (fun x => (Lit.int .i64 x.f).wf = true ∧ (Lit.int .i64 x.p).wf = true) 2 Try.underlying22 (by kernel_rfl) tier_read h
theorem upT_of {l : List Tr} (h : ∀ x ∈ l, (Lit.int .i64 x.f).wf = true ∧ (Lit.int .i64 x.p).wf = true) : upT l := by
  intro k
  rcases Nat.lt_or_ge k l.length with q | q
  · rw [getD_at l k q]; exact (wf_i64 (h _ (List.getElem_mem q)).1).2
  · rw [List.getD_eq_getElem?_getD, List.getElem?_eq_none q]; decide
/-- The cells of a volume. -/
theorem vol_read {H : Type} {enc : TypeId × Value → H} {W : World} (cs : List Value) (m : Nat) (y) (hl : cs.length = 2) (h : DataW.trod enc Try.prog W 0 (fun _ => true) true m 31 cs = some y) :
    ∃ x : Vol, cs = volCells x ∧ x.s.size ≤ maxLen ∧ (Lit.int .i64 x.c).wf = true := by
  obtain ⟨c0, c1, rfl⟩ : ∃ c0 c1, cs = [c0, c1] := by
    match cs, hl with
    | [a, b], _ => exact ⟨a, b, rfl⟩
  obtain ⟨y0, y1, n, hx, _, h0, h1⟩ := trod_struct2 Try.underlying31 h
  have k2 : Try.prog.cellsOf 2 = 1 := by kernel_rfl
  have k9 : Try.prog.cellsOf 9 = 1 := by kernel_rfl
  obtain ⟨s, e1, _, hs⟩ := DataW.trod_string Try.underlying9 (show DataW.trod enc Try.prog W 0 (fun _ => true) true n 9 [c0] = some y0 by simpa [k9] using h0)
  obtain ⟨b, e2, _, hb⟩ := DataW.trod_int Try.underlying2 (show DataW.trod enc Try.prog W 0 (fun _ => true) true n 2 [c1] = some y1 by simpa [k2] using h1)
  injection e1 with e1; injection e2 with e2
  subst e1; subst e2
  exact ⟨⟨s, b⟩, rfl, hs, hb⟩
theorem vols_open {H : Type} {enc : TypeId × Value → H} {W : World} {a : Option Addr} {len cap : Nat} {d : DataW H} {p : List MemPlace} (h : DataW.Trod enc Try.prog W 0 (fun _ => true) true 23 (.slice a len cap) d p) :
    ∃ l : List Vol, l.length = len ∧ IsRow W a (cellsV l) ∧ (∀ x ∈ l, x.s.size ≤ maxLen ∧ (Lit.int .i64 x.c).wf = true) ∧ len ≤ cap ∧ (a = none → cap = 0) ∧ cap ≤ maxLen :=
  slice_open volCells (fun x => x.s.size ≤ maxLen ∧ (Lit.int .i64 x.c).wf = true) 2 Try.underlying23 (by kernel_rfl) vol_read h
end Go.Proofs.Ytfhiepcjkocnlaa
