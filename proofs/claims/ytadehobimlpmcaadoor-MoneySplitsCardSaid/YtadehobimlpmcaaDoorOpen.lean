/- Arguments opened: an amount, a slice of amounts, a slice of numbers. -/
import Derived.Test.YtadehobimlpmcaaDoorSam
import Derived.Deep.Slices
import Derived.Deep.Fields
import Derived.Lib.SmallJoins
namespace Go.Proofs.YtadehobimlpmcaaDoor
set_option linter.unusedVariables false
open Go.RowKit Go.Maps Go.ChangeShapes Go.WideShapes Go.Deep Go.Joins

theorem flat_at {α : Type} (cells : α → List Value) (n : Nat) (l : List α) (hn : ∀ x ∈ l, (cells x).length = n) (j : Nat) (v : Value) (h : (l.flatMap cells)[j]? = some v) :
    ∃ i j', ∃ hi : i < l.length, j = i * n + j' ∧ (cells l[i])[j']? = some v := by
  induction l generalizing j with
  | nil => simp at h
  | cons x l ih =>
    have hx : (cells x).length = n := hn x (by simp)
    rw [List.flatMap_cons] at h
    by_cases hj : j < n
    · rw [List.getElem?_append_left (by omega)] at h
      exact ⟨0, j, by simp, by simp, h⟩
    · rw [List.getElem?_append_right (by omega), hx] at h
      obtain ⟨i, j', hi, e, hv⟩ := ih (fun y hy => hn y (by simp [hy])) _ h
      refine ⟨i + 1, j', by simp; exact hi, ?_, by simpa using hv⟩
      rw [Nat.succ_mul]; omega
theorem flat_length {α : Type} (cells : α → List Value) (n : Nat) (l : List α) (hn : ∀ x ∈ l, (cells x).length = n) : (l.flatMap cells).length = l.length * n := by
  induction l with
  | nil => simp
  | cons x l ih => rw [List.flatMap_cons, List.length_append, ih (fun y hy => hn y (by simp [hy])), hn x (by simp), List.length_cons, Nat.succ_mul]; omega
theorem slice_open {α : Type} [Inhabited α] {H : Type} {enc : TypeId × Value → H} {P : Program} {W : World} {t e : TypeId} (cells : α → List Value) (ok : α → Prop) (n : Nat) (ht : P.underlying t = some (.slice e)) (hC : P.cellsOf e = n)
    (hread : ∀ (cs : List Value) (m : Nat) y, cs.length = n → DataW.trod enc P W 0 (fun _ => true) true m e cs = some y → ∃ x, cs = cells x ∧ ok x)
    {a : Option Addr} {len cap : Nat} {d : DataW H} {p : List MemPlace} (h : DataW.Trod enc P W 0 (fun _ => true) true t (.slice a len cap) d p) :
    ∃ l : List α, l.length = len ∧ IsRow W a (l.flatMap cells) ∧ (∀ x ∈ l, ok x) ∧ len ≤ cap ∧ (a = none → cap = 0) ∧ cap ≤ maxLen := by
  obtain ⟨fuel, hf⟩ := h
  rcases open_slice ht hf with ⟨hcs, _⟩ | ⟨x, ln, cp, m, k, D, Pl, hcs, _, hl, hm, hmm, _, hi⟩
  · simp [Value.cells] at hcs
    obtain ⟨rfl, rfl, rfl⟩ := hcs
    exact ⟨[], rfl, .inl rfl, by simp, by simp⟩
  · simp [Value.cells] at hcs
    obtain ⟨rfl, rfl, rfl⟩ := hcs
    simp only [if_true] at hmm
    subst hmm
    rw [hC] at hi
    obtain ⟨f, hf'⟩ := choose_lt (α := α) (n := len) (p := fun i y => ok y ∧ (cells y).length = n ∧ ∀ j v, (cells y)[j]? = some v → W.cell? (x.add (i * n + j)) = some v) (fun i hil => by
      obtain ⟨cs', h1, h2⟩ := hi i (by omega)
      obtain ⟨_, hlen, hat⟩ := World.cells?_some h1
      obtain ⟨y, rfl, hy⟩ := hread cs' _ _ hlen h2
      refine ⟨y, hy, hlen, fun j v hj => ?_⟩
      have hjl : j < n := by have := (List.getElem?_eq_some_iff.1 hj).1; omega
      have := hat j hjl
      rw [Go.Deep.add_add] at this
      rw [this, hj])
    have hlens : ∀ y ∈ (List.range len).map f, (cells y).length = n := by
      intro y hy
      obtain ⟨i, hir, rfl⟩ := List.mem_map.1 hy
      exact (hf' i (List.mem_range.1 hir)).2.1
    refine ⟨(List.range len).map f, by simp, ?_, ?_, hl, by simp, hm⟩
    · by_cases h0 : (((List.range len).map f).flatMap cells).length = 0
      · exact .inl h0
      · right
        have hall : ∀ j v, (((List.range len).map f).flatMap cells)[j]? = some v → W.cell? (x.add j) = some v := by
          intro j v hj
          obtain ⟨i, j', hil, rfl, hv⟩ := flat_at cells n _ hlens j v hj
          have hil' : i < len := by simpa using hil
          rw [List.getElem_map, List.getElem_range] at hv
          exact (hf' i hil').2.2 j' v hv
        obtain ⟨b, off, spot⟩ := x
        have hspot : spot = none := by
          have h1 := hall 0 _ (List.getElem?_eq_getElem (by omega))
          simpa [Addr.add] using World.cell?_spot h1
        subst hspot
        refine ⟨b, off, rfl, fun j v hj => ?_⟩
        have := hall j v hj
        rwa [Addr.add_lit] at this
    · intro y hy
      obtain ⟨i, hir, rfl⟩ := List.mem_map.1 hy
      exact (hf' i (List.mem_range.1 hir)).1
/-- A slice of texts. -/
theorem strs_open {H : Type} {enc : TypeId × Value → H} {P : Program} {W : World} {t e : TypeId} (ht : P.underlying t = some (.slice e)) (he : P.underlying e = some .string) (hC : P.cellsOf e = 1)
    {a : Option Addr} {len cap : Nat} {d : DataW H} {p : List MemPlace} (h : DataW.Trod enc P W 0 (fun _ => true) true t (.slice a len cap) d p) :
    ∃ l : List ByteArray, l.length = len ∧ IsRow W a (l.map .string) ∧ (∀ s ∈ l, s.size ≤ maxLen) ∧ len ≤ cap ∧ (a = none → cap = 0) ∧ cap ≤ maxLen := by
  haveI : Inhabited ByteArray := ⟨ByteArray.empty⟩
  obtain ⟨l, h1, h2, h3⟩ := slice_open (α := ByteArray) (fun s => [.string s]) (fun s => s.size ≤ maxLen) 1 ht hC (fun cs m y hl hy => by
    obtain ⟨s, rfl, _, hs⟩ := DataW.trod_string he hy
    exact ⟨s, rfl, hs⟩) h
  refine ⟨l, h1, ?_, h3⟩
  have e : ∀ l : List ByteArray, l.flatMap (fun s => [Value.string s]) = l.map .string := by intro l; induction l <;> simp_all
  rw [e] at h2; exact h2
/-- An amount. -/
structure Mny where
  a : Int
  s : ByteArray
def Mny.val (x : Mny) : Value := .agg #[.int .i64 x.a, .string x.s]
def Mny.cells (x : Mny) : List Value := [.int .i64 x.a, .string x.s]
instance : Inhabited Mny := ⟨⟨0, ⟨#[]⟩⟩⟩
theorem mon_read {H : Type} {enc : TypeId × Value → H} {W : World} (cs : List Value) (m : Nat) (y) (hl : cs.length = 2) (h : DataW.trod enc Tryd.prog W 0 (fun _ => true) true m 23 cs = some y) :
    ∃ x : Mny, cs = x.cells ∧ (Lit.int .i64 x.a).wf = true ∧ x.s.size ≤ maxLen := by
  obtain ⟨c0, c1, rfl⟩ : ∃ c0 c1, cs = [c0, c1] := by
    match cs, hl with
    | [a, b], _ => exact ⟨a, b, rfl⟩
  obtain ⟨y0, y1, n, hx, _, h0, h1⟩ := trod_struct2 Tryd.underlying23 h
  have k9 : Tryd.prog.cellsOf 9 = 1 := by kernel_rfl
  have k2 : Tryd.prog.cellsOf 2 = 1 := by kernel_rfl
  obtain ⟨a, e0, _, ha⟩ := DataW.trod_int Tryd.underlying2 (show DataW.trod enc Tryd.prog W 0 (fun _ => true) true n 2 [c0] = some y0 by simpa [k2] using h0)
  obtain ⟨s, e1, _, hs⟩ := DataW.trod_string Tryd.underlying9 (show DataW.trod enc Tryd.prog W 0 (fun _ => true) true n 9 [c1] = some y1 by simpa [k9] using h1)
  injection e0 with e0; injection e1 with e1
  subst e0; subst e1
  exact ⟨⟨a, s⟩, rfl, ha, hs⟩
theorem cells23 : Tryd.prog.cellsOf 23 = 2 := by kernel_rfl
set_option maxRecDepth 100000 in
theorem mon_open {H : Type} {enc : TypeId × Value → H} {W : World} {r : Reach} {b0 : Nat} {v : Value} {d : DataW H} {p : List MemPlace} (hv : Value.okWide Tryd.prog W r b0 23 v) (h : DataW.Trod enc Tryd.prog W 0 (fun _ => true) true 23 v d p) :
    ∃ x : Mny, v = x.val ∧ (Lit.int .i64 x.a).wf = true ∧ x.s.size ≤ maxLen := by
  obtain ⟨cs, rfl, hsz⟩ := okWide_struct Tryd.underlying23 hv
  obtain ⟨fuel, hf⟩ := h
  have hc : cs.toList.length = 2 := by rw [Array.length_toList, hsz, cells23]
  obtain ⟨x, hx, hok⟩ := mon_read cs.toList fuel _ hc (by simpa [Value.cells] using hf)
  refine ⟨x, ?_, hok⟩
  unfold Mny.val
  have : cs = x.cells.toArray := by rw [← hx]
  rw [this]; rfl
theorem mons_open {H : Type} {enc : TypeId × Value → H} {W : World} {a : Option Addr} {len cap : Nat} {d : DataW H} {p : List MemPlace} (h : DataW.Trod enc Tryd.prog W 0 (fun _ => true) true 30 (.slice a len cap) d p) :
    ∃ l : List Mny, l.length = len ∧ IsRow W a (l.flatMap Mny.cells) ∧ (∀ x ∈ l, (Lit.int .i64 x.a).wf = true ∧ x.s.size ≤ maxLen) ∧ len ≤ cap ∧ (a = none → cap = 0) ∧ cap ≤ maxLen :=
  slice_open Mny.cells (fun x => (Lit.int .i64 x.a).wf = true ∧ x.s.size ≤ maxLen) 2 Tryd.underlying30 (by kernel_rfl) mon_read h
theorem wts_open {H : Type} {enc : TypeId × Value → H} {W : World} {a : Option Addr} {len cap : Nat} {d : DataW H} {p : List MemPlace} (h : DataW.Trod enc Tryd.prog W 0 (fun _ => true) true 29 (.slice a len cap) d p) :
    ∃ l : List Int, l.length = len ∧ IsRow W a (l.map (.int .i64)) ∧ (∀ x ∈ l, (Lit.int .i64 x).wf = true) ∧ len ≤ cap ∧ (a = none → cap = 0) ∧ cap ≤ maxLen := by
  obtain ⟨l, h1, h2, h3⟩ := slice_open (α := Int) (fun x => [.int .i64 x]) (fun x => (Lit.int .i64 x).wf = true) 1 Tryd.underlying29 (by kernel_rfl) (fun cs m y hl hy => by
    obtain ⟨s, rfl, _, hs⟩ := DataW.trod_int Tryd.underlying2 hy
    exact ⟨s, rfl, hs⟩) h
  refine ⟨l, h1, ?_, h3⟩
  have e : ∀ l : List Int, l.flatMap (fun x => [Value.int .i64 x]) = l.map (.int .i64) := by intro l; induction l <;> simp_all
  rw [e] at h2; exact h2
end Go.Proofs.YtadehobimlpmcaaDoor
