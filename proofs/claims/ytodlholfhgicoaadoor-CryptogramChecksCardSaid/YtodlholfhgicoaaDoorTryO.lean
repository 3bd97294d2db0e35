/- Arguments opened: a slice of structs; a slice of tries; a slice of payments. -/
import Derived.Test.YtodlholfhgicoaaDoorHead
import Derived.Deep.Slices
import Derived.Deep.Fields
namespace Go.Proofs.YtodlholfhgicoaaDoor
set_option linter.unusedVariables false
open Go.RowKit Go.Maps Go.ChangeShapes Go.WideShapes Go.Deep Go.Joins

theorem flat_at {α : Type} (cells : α → List Value) (n : Nat) (l : List α) (hn : ∀ x ∈ l, (cells x).length = n) (j : Nat) (v : Value) (h : (l.flatMap cells)[j]? = some v) :
    ∃ i j', ∃ hi : i < l.length, j = i * n + j' ∧ (cells l[i])[j']? = some v := by
  induction l generalizing j with
  | nil => simp at h
  | cons x l ih =>
    have hx : (cells x).length = n := hn x (by simp)
    rw [List.flatMap_cons] at h
    by_cases hj : j < n
    · rw [List.getElem?_append_left (by omega)] at h
      exact ⟨0, j, by simp, by simp, h⟩
    · rw [List.getElem?_append_right (by omega), hx] at h
      obtain ⟨i, j', hi, e, hv⟩ := ih (fun y hy => hn y (by simp [hy])) _ h
      refine ⟨i + 1, j', by simp; exact hi, ?_, by simpa using hv⟩
      rw [Nat.succ_mul]; omega
theorem flat_length {α : Type} (cells : α → List Value) (n : Nat) (l : List α) (hn : ∀ x ∈ l, (cells x).length = n) : (l.flatMap cells).length = l.length * n := by
  induction l with
  | nil => simp
  | cons x l ih => rw [List.flatMap_cons, List.length_append, ih (fun y hy => hn y (by simp [hy])), hn x (by simp), List.length_cons, Nat.succ_mul]; omega
theorem slice_open {α : Type} [Inhabited α] {H : Type} {enc : TypeId × Value → H} {P : Program} {W : World} {t e : TypeId} (cells : α → List Value) (ok : α → Prop) (n : Nat) (ht : P.underlying t = some (.slice e)) (hC : P.cellsOf e = n)
    (hread : ∀ (cs : List Value) (m : Nat) y, cs.length = n → DataW.trod enc P W 0 (fun _ => true) true m e cs = some y → ∃ x, cs = cells x ∧ ok x)
    {a : Option Addr} {len cap : Nat} {d : DataW H} {p : List MemPlace} (h : DataW.Trod enc P W 0 (fun _ => true) true t (.slice a len cap) d p) :
    ∃ l : List α, l.length = len ∧ IsRow W a (l.flatMap cells) ∧ (∀ x ∈ l, ok x) ∧ len ≤ cap ∧ (a = none → cap = 0) ∧ cap ≤ maxLen := by
  obtain ⟨fuel, hf⟩ := h
  rcases open_slice ht hf with ⟨hcs, _⟩ | ⟨x, ln, cp, m, k, D, Pl, hcs, _, hl, hm, hmm, _, hi⟩
  · simp [Value.cells] at hcs
    obtain ⟨rfl, rfl, rfl⟩ := hcs
    exact ⟨[], rfl, .inl rfl, by simp, by simp⟩
  · simp [Value.cells] at hcs
    obtain ⟨rfl, rfl, rfl⟩ := hcs
    simp only [if_true] at hmm
    subst hmm
    rw [hC] at hi
    obtain ⟨f, hf'⟩ := choose_lt (α := α) (n := len) (p := fun i y => ok y ∧ (cells y).length = n ∧ ∀ j v, (cells y)[j]? = some v → W.cell? (x.add (i * n + j)) = some v) (fun i hil => by
      obtain ⟨cs', h1, h2⟩ := hi i (by omega)
      obtain ⟨_, hlen, hat⟩ := World.cells?_some h1
      obtain ⟨y, rfl, hy⟩ := hread cs' _ _ hlen h2
      refine ⟨y, hy, hlen, fun j v hj => ?_⟩
      have hjl : j < n := by have := (List.getElem?_eq_some_iff.1 hj).1; omega
      have := hat j hjl
      rw [Go.Deep.add_add] at this
      rw [this, hj])
    have hlens : ∀ y ∈ (List.range len).map f, (cells y).length = n := by
      intro y hy
      obtain ⟨i, hir, rfl⟩ := List.mem_map.1 hy
      exact (hf' i (List.mem_range.1 hir)).2.1
    refine ⟨(List.range len).map f, by simp, ?_, ?_, hl, by simp, hm⟩
    · by_cases h0 : (((List.range len).map f).flatMap cells).length = 0
      · exact .inl h0
      · right
        have hall : ∀ j v, (((List.range len).map f).flatMap cells)[j]? = some v → W.cell? (x.add j) = some v := by
          intro j v hj
          obtain ⟨i, j', hil, rfl, hv⟩ := flat_at cells n _ hlens j v hj
          have hil' : i < len := by simpa using hil
          rw [List.getElem_map, List.getElem_range] at hv
          exact (hf' i hil').2.2 j' v hv
        obtain ⟨b, off, spot⟩ := x
        have hspot : spot = none := by
          have h1 := hall 0 _ (List.getElem?_eq_getElem (by omega))
          simpa [Addr.add] using World.cell?_spot h1
        subst hspot
        refine ⟨b, off, rfl, fun j v hj => ?_⟩
        have := hall j v hj
        rwa [Addr.add_lit] at this
    · intro y hy
      obtain ⟨i, hir, rfl⟩ := List.mem_map.1 hy
      exact (hf' i (List.mem_range.1 hir)).1
def tryC (x : Nat × Nat) : List Value := [.int .u8 x.1, .int .u16 x.2]
theorem u8_nat {n : Int} (h : (Lit.int .u8 n).wf = true) : ∃ m : Nat, n = m ∧ m < 256 := by
  simp [Lit.wf] at h
  have e : IntKind.u8.min = 0 := by decide
  have e2 : IntKind.u8.max = 255 := by decide
  rw [e] at h
  first | rw [e2] at h | skip
  exact ⟨n.toNat, by omega, by omega⟩
theorem u16_nat {n : Int} (h : (Lit.int .u16 n).wf = true) : ∃ m : Nat, n = m ∧ m < 65536 := by
  simp [Lit.wf] at h
  have e : IntKind.u16.min = 0 := by decide
  have e2 : IntKind.u16.max = 65535 := by decide
  rw [e] at h
  first | rw [e2] at h | skip
  exact ⟨n.toNat, by omega, by omega⟩
theorem try_read {H : Type} {enc : TypeId × Value → H} {W : World} (cs : List Value) (m : Nat) (y) (hl : cs.length = 2) (h : DataW.trod enc Tryd.prog W 0 (fun _ => true) true m 49 cs = some y) :
    ∃ x : Nat × Nat, cs = tryC x ∧ x.1 < 256 ∧ x.2 < 65536 := by
  obtain ⟨c0, c1, rfl⟩ : ∃ c0 c1, cs = [c0, c1] := by
    match cs, hl with
    | [a, b], _ => exact ⟨a, b, rfl⟩
  obtain ⟨y0, y1, n, hx, _, h0, h1⟩ := trod_struct2 Tryd.underlying49 h
  have k5 : Tryd.prog.cellsOf 5 = 1 := by kernel_rfl
  have k47 : Tryd.prog.cellsOf 47 = 1 := by kernel_rfl
  obtain ⟨a, e0, _, ha⟩ := DataW.trod_int Tryd.underlying5 (show DataW.trod enc Tryd.prog W 0 (fun _ => true) true n 5 [c0] = some y0 by simpa [k5] using h0)
  obtain ⟨s, e1, _, hs⟩ := DataW.trod_int Tryd.underlying47 (show DataW.trod enc Tryd.prog W 0 (fun _ => true) true n 47 [c1] = some y1 by simpa [k47] using h1)
  injection e0 with e0; injection e1 with e1
  subst e0; subst e1
  obtain ⟨a', rfl, ha'⟩ := u8_nat ha
  obtain ⟨s', rfl, hs'⟩ := u16_nat hs
  exact ⟨(a', s'), rfl, ha', hs'⟩
theorem tries_open {H : Type} {enc : TypeId × Value → H} {W : World} {a : Option Addr} {len cap : Nat} {d : DataW H} {p : List MemPlace} (h : DataW.Trod enc Tryd.prog W 0 (fun _ => true) true 44 (.slice a len cap) d p) :
    ∃ l : List (Nat × Nat), l.length = len ∧ IsRow W a (l.flatMap tryC) ∧ (∀ x ∈ l, x.1 < 256 ∧ x.2 < 65536) ∧ len ≤ cap ∧ (a = none → cap = 0) ∧ cap ≤ maxLen :=
  slice_open tryC (fun x => x.1 < 256 ∧ x.2 < 65536) 2 Tryd.underlying44 (by kernel_rfl) try_read h
theorem try_cells (l : List (Nat × Nat)) (k : Nat) (hk : k < l.length) : (l.flatMap tryC)[k * 2]? = some (.int .u8 l[k].1) ∧ (l.flatMap tryC)[k * 2 + 1]? = some (.int .u16 l[k].2) := by
  induction l generalizing k with
  | nil => simp at hk
  | cons x l ih =>
    cases k with
    | zero => exact ⟨rfl, rfl⟩
    | succ k =>
      have := ih k (by simpa using hk)
      rw [List.flatMap_cons]
      show ([Value.int .u8 x.1, .int .u16 x.2] ++ _)[(k + 1) * 2]? = _ ∧ ([Value.int .u8 x.1, .int .u16 x.2] ++ _)[(k + 1) * 2 + 1]? = _
      rw [show (k + 1) * 2 = k * 2 + 2 by omega, show k * 2 + 2 + 1 = k * 2 + 1 + 2 by omega]
      simpa using this
end Go.Proofs.YtodlholfhgicoaaDoor
