/- Slices of records and files as arguments, opened; the reach of their texts. -/
import Derived.Test.YthflmdgfenojcaaGreatDoorHead
import Derived.Test.YthflmdgfenojcaaGreatDoorLTo
import Derived.SizedLaws
import Derived.Deep.Slices
import Derived.Deep.Fields
namespace Go.Proofs.YthflmdgfenojcaaGreatDoor
set_option linter.unusedVariables false
open Go.RowKit Go.ChangeShapes Go.WideShapes Go.Deep Go.Joins

theorem flat_at {α : Type} (cells : α → List Value) (n : Nat) (l : List α) (hn : ∀ x ∈ l, (cells x).length = n) (j : Nat) (v : Value) (h : (l.flatMap cells)[j]? = some v) :
    ∃ i j', ∃ hi : i < l.length, j = i * n + j' ∧ (cells l[i])[j']? = some v := by
  induction l generalizing j with
  | nil => simp at h
  | cons x l ih =>
    have hx : (cells x).length = n := hn x (by simp)
    rw [List.flatMap_cons] at h
    by_cases hj : j < n
    · rw [List.getElem?_append_left (by omega)] at h
      exact ⟨0, j, by simp, by simp, h⟩
    · rw [List.getElem?_append_right (by omega), hx] at h
      obtain ⟨i, j', hi, e, hv⟩ := ih (fun y hy => hn y (by simp [hy])) _ h
      refine ⟨i + 1, j', by simp; exact hi, ?_, by simpa using hv⟩
      rw [Nat.succ_mul]; omega
theorem flat_length {α : Type} (cells : α → List Value) (n : Nat) (l : List α) (hn : ∀ x ∈ l, (cells x).length = n) : (l.flatMap cells).length = l.length * n := by
  induction l with
  | nil => simp
  | cons x l ih => rw [List.flatMap_cons, List.length_append, ih (fun y hy => hn y (by simp [hy])), hn x (by simp), List.length_cons, Nat.succ_mul]; omega
theorem weightsAll_mem {H : Type} {P : Program} {e : TypeId} {d : DataW H} {k : Nat} : ∀ {l : List (DataW H)}, d ∈ l → k ∈ d.weights P e → k ∈ DataW.weightsAll P e l
  | [], h, _ => by cases h
  | x :: l, h, hk => by
    simp only [DataW.weightsAll, List.mem_append]
    rcases List.mem_cons.1 h with rfl | h
    · exact .inl hk
    · exact .inr (weightsAll_mem h hk)
theorem slice_openW {α : Type} [Inhabited α] {H : Type} {enc : TypeId × Value → H} {P : Program} {W : World} {t e : TypeId} (cells : α → List Value) (ok : α → Prop) (n : Nat) (ht : P.underlying t = some (.slice e)) (hC : P.cellsOf e = n)
    (hread : ∀ (cs : List Value) (m : Nat) y, cs.length = n → DataW.trod enc P W 0 (fun _ => true) true m e cs = some y → (∀ k ∈ y.1.weights P e, k ≤ reachBytes) → ∃ x, cs = cells x ∧ ok x)
    {a : Option Addr} {len cap : Nat} {d : DataW H} {p : List MemPlace} (h : DataW.Trod enc P W 0 (fun _ => true) true t (.slice a len cap) d p) (hw : ∀ k ∈ d.weights P t, k ≤ reachBytes) :
    ∃ l : List α, l.length = len ∧ IsRow W a (l.flatMap cells) ∧ (∀ x ∈ l, ok x) ∧ len ≤ cap ∧ (a = none → cap = 0) ∧ cap ≤ maxLen := by
  obtain ⟨fuel, hf⟩ := h
  rcases open_slice ht hf with ⟨hcs, _⟩ | ⟨x, ln, cp, m, k, D, Pl, hcs, _, hl, hm, hmm, hx, hi⟩
  · simp [Value.cells] at hcs
    obtain ⟨rfl, rfl, rfl⟩ := hcs
    exact ⟨[], rfl, .inl rfl, by simp, by simp⟩
  · simp [Value.cells] at hcs
    obtain ⟨rfl, rfl, rfl⟩ := hcs
    simp only [if_true] at hmm
    subst hmm
    rw [hC] at hi
    have hwD : ∀ i, i < len → ∀ k ∈ (D i).weights P e, k ≤ reachBytes := fun i hi k hk => hw k (by
      injection hx with hx _
      rw [hx]
      simp only [DataW.weights, ht]
      refine List.mem_cons_of_mem _ (List.mem_append_left _ (weightsAll_mem (List.mem_map.2 ⟨i, List.mem_range.2 hi, rfl⟩) hk)))
    obtain ⟨f, hf'⟩ := choose_lt (α := α) (n := len) (p := fun i y => ok y ∧ (cells y).length = n ∧ ∀ j v, (cells y)[j]? = some v → W.cell? (x.add (i * n + j)) = some v) (fun i hil => by
      obtain ⟨cs', h1, h2⟩ := hi i (by omega)
      obtain ⟨_, hlen, hat⟩ := World.cells?_some h1
      obtain ⟨y, rfl, hy⟩ := hread cs' _ _ hlen h2 (hwD i hil)
      refine ⟨y, hy, hlen, fun j v hj => ?_⟩
      have hjl : j < n := by have := (List.getElem?_eq_some_iff.1 hj).1; omega
      have := hat j hjl
      rw [Go.Deep.add_add] at this
      rw [this, hj])
    have hlens : ∀ y ∈ (List.range len).map f, (cells y).length = n := by
      intro y hy
      obtain ⟨i, hir, rfl⟩ := List.mem_map.1 hy
      exact (hf' i (List.mem_range.1 hir)).2.1
    refine ⟨(List.range len).map f, by simp, ?_, ?_, hl, by simp, hm⟩
    · by_cases h0 : (((List.range len).map f).flatMap cells).length = 0
      · exact .inl h0
      · right
        have hall : ∀ j v, (((List.range len).map f).flatMap cells)[j]? = some v → W.cell? (x.add j) = some v := by
          intro j v hj
          obtain ⟨i, j', hil, rfl, hv⟩ := flat_at cells n _ hlens j v hj
          have hil' : i < len := by simpa using hil
          rw [List.getElem_map, List.getElem_range] at hv
          exact (hf' i hil').2.2 j' v hv
        obtain ⟨b, off, spot⟩ := x
        have hspot : spot = none := by
          have h1 := hall 0 _ (List.getElem?_eq_getElem (by omega))
          simpa [Addr.add] using World.cell?_spot h1
        subst hspot
        refine ⟨b, off, rfl, fun j v hj => ?_⟩
        have := hall j v hj
        rwa [Addr.add_lit] at this
    · intro y hy
      obtain ⟨i, hir, rfl⟩ := List.mem_map.1 hy
      exact (hf' i (List.mem_range.1 hir)).1
set_option maxRecDepth 100000 in
theorem rec_readW {H : Type} {enc : TypeId × Value → H} {W : World} (cs : List Value) (m : Nat) (y) (hl : cs.length = 12) (h : DataW.trod enc Tryz.prog W 0 (fun _ => true) true m 57 cs = some y) (hw : ∀ k ∈ y.1.weights Tryz.prog 57, k ≤ reachBytes) :
    ∃ r : Rec, cs = r.cells.toList ∧ r.Rch ∧ (Lit.int .i64 r.k).wf = true ∧ (Lit.int .i64 r.a).wf = true ∧ (Lit.int .i64 r.d).wf = true ∧ (Lit.int .i64 r.c).wf = true := by
  match cs, hl with
  | [c0, c1, c2, c3, c4, c5, c6, c7, c8, c9, c10, c11], _ =>
    obtain ⟨xs, n, _, rfl, hxl, hlen, hf⟩ := DataW.trod_struct Tryz.underlying57 h
    match xs, hlen with
    | [y0, y1, y2, y3, y4, y5, y6, y7, y8, y9, y10], _ =>
      have k9 : Tryz.prog.cellsOf 9 = 1 := by kernel_rfl
      have k2 : Tryz.prog.cellsOf 2 = 1 := by kernel_rfl
      have k3 : Tryz.prog.cellsOf 3 = 1 := by kernel_rfl
      have k4 : Tryz.prog.cellsOf 4 = 1 := by kernel_rfl
      have k23 : Tryz.prog.cellsOf 55 = 2 := by kernel_rfl
      obtain ⟨s0, e0, x0, w0⟩ := DataW.trod_int Tryz.underlying3 (show DataW.trod enc Tryz.prog W 0 (fun _ => true) true n 3 [c0] = some y0 by simpa [k3] using hf 0 _ rfl)
      obtain ⟨s1, e1, x1, w1⟩ := DataW.trod_string Tryz.underlying9 (show DataW.trod enc Tryz.prog W 0 (fun _ => true) true n 9 [c1] = some y1 by simpa [k9] using hf 1 _ rfl)
      obtain ⟨s2, e2, x2, w2⟩ := DataW.trod_string Tryz.underlying9 (show DataW.trod enc Tryz.prog W 0 (fun _ => true) true n 9 [c2] = some y2 by simpa [k9] using hf 2 _ rfl)
      obtain ⟨s3, e3, x3, w3⟩ := DataW.trod_string Tryz.underlying9 (show DataW.trod enc Tryz.prog W 0 (fun _ => true) true n 9 [c3] = some y3 by simpa [k9] using hf 3 _ rfl)
      obtain ⟨s4, e4, x4, w4⟩ := DataW.trod_string Tryz.underlying9 (show DataW.trod enc Tryz.prog W 0 (fun _ => true) true n 9 [c4] = some y4 by simpa [k9] using hf 4 _ rfl)
      obtain ⟨s5, e5, x5, w5⟩ := DataW.trod_string Tryz.underlying9 (show DataW.trod enc Tryz.prog W 0 (fun _ => true) true n 9 [c5] = some y5 by simpa [k9] using hf 5 _ rfl)
      obtain ⟨s6, e6, x6, w6⟩ := DataW.trod_string Tryz.underlying9 (show DataW.trod enc Tryz.prog W 0 (fun _ => true) true n 9 [c6] = some y6 by simpa [k9] using hf 6 _ rfl)
      obtain ⟨z0, z1, m', xz, _, g0, g1⟩ := trod_struct2 Tryz.underlying55 (show DataW.trod enc Tryz.prog W 0 (fun _ => true) true n 55 [c7, c8] = some y7 by simpa [k23] using hf 7 _ rfl)
      obtain ⟨s7, e7, x7, w7⟩ := DataW.trod_int Tryz.underlying2 (show DataW.trod enc Tryz.prog W 0 (fun _ => true) true m' 2 [c7] = some z0 by simpa [k2] using g0)
      obtain ⟨s8, e8, x8, w8⟩ := DataW.trod_string Tryz.underlying9 (show DataW.trod enc Tryz.prog W 0 (fun _ => true) true m' 9 [c8] = some z1 by simpa [k9] using g1)
      obtain ⟨s9, e9, x9, w9⟩ := DataW.trod_int Tryz.underlying3 (show DataW.trod enc Tryz.prog W 0 (fun _ => true) true n 3 [c9] = some y8 by simpa [k3] using hf 8 _ rfl)
      obtain ⟨s10, e10, x10, w10⟩ := DataW.trod_int Tryz.underlying3 (show DataW.trod enc Tryz.prog W 0 (fun _ => true) true n 3 [c10] = some y9 by simpa [k3] using hf 9 _ rfl)
      obtain ⟨s11, e11, x11⟩ := DataW.trod_bool Tryz.underlying4 (show DataW.trod enc Tryz.prog W 0 (fun _ => true) true n 4 [c11] = some y10 by simpa [k4] using hf 10 _ rfl)
      injection e0 with e0; injection e1 with e1; injection e2 with e2; injection e3 with e3; injection e4 with e4; injection e5 with e5; injection e6 with e6; injection e7 with e7; injection e8 with e8; injection e9 with e9; injection e10 with e10; injection e11 with e11
      subst e0 e1 e2 e3 e4 e5 e6 e7 e8 e9 e10 e11
      subst x0 x1 x2 x3 x4 x5 x6 xz x7 x8 x9 x10 x11
      have hW := hw
      simp [DataW.weights, Tryz.underlying57, Tryz.underlying55, DataW.weightsEach] at hW
      obtain ⟨g1, g2, g3, g4, g5, g6, g8⟩ := hW
      unfold reachBytes at g1 g2 g3 g4 g5 g6 g8
      exact ⟨⟨s0, s1, s2, s3, s4, s5, s6, s7, s8, s9, s10, s11⟩, rfl, ⟨by omega, by omega, by omega, by omega, by omega, by omega, by omega⟩, w0, w7, w9, w10⟩
theorem recs_cells (r : Rec) : r.cells.toList = recF r := rfl
theorem recs_open {H : Type} {enc : TypeId × Value → H} {W : World} {a : Option Addr} {len cap : Nat} {d : DataW H} {p : List MemPlace} (h : DataW.Trod enc Tryz.prog W 0 (fun _ => true) true 34 (.slice a len cap) d p) (hw : ∀ k ∈ d.weights Tryz.prog 34, k ≤ reachBytes) :
    ∃ l : List Rec, l.length = len ∧ IsRow W a (l.flatMap recF) ∧ (∀ x ∈ l, x.Rch) ∧ len ≤ cap ∧ (a = none → cap = 0) ∧ cap ≤ maxLen :=
  slice_openW recF (fun x => x.Rch) 12 Tryz.underlying34 cells25 (fun cs m y hl hy hk => by
    obtain ⟨r, h1, h2, _⟩ := rec_readW cs m y hl hy hk
    exact ⟨r, h1, h2⟩) h hw
end Go.Proofs.YthflmdgfenojcaaGreatDoor
