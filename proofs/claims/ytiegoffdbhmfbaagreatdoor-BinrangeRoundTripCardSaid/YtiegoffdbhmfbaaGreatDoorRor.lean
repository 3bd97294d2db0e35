/- Rows of ranges that a call sorts in place: what lies in the block, and a swap. -/
import Derived.Test.YtiegoffdbhmfbaaGreatDoorStb
import Derived.Test.YtiegoffdbhmfbaaGreatDoorExa
namespace Go.Proofs.YtiegoffdbhmfbaaGreatDoor
set_option linter.unusedVariables false
open Go.RowKit Go.Sort

structure RowAt (C : Array Value) (k : Nat) (r : Rg) : Prop where
  lo : C[k * 4]? = some (.string r.lo)
  hi : C[k * 4 + 1]? = some (.string r.hi)
  is : C[k * 4 + 2]? = some (.string r.is)
  pr : C[k * 4 + 3]? = some (.string r.pr)
def put4 (C : Array Value) (k : Nat) (r : Rg) : Array Value :=
  (((C.setIfInBounds (k * 4) (.string r.lo)).setIfInBounds (k * 4 + 1) (.string r.hi)).setIfInBounds (k * 4 + 2) (.string r.is)).setIfInBounds (k * 4 + 3) (.string r.pr)
theorem RowAt.size {C : Array Value} {k : Nat} {r : Rg} (h : RowAt C k r) : k * 4 + 3 < C.size := (Array.getElem?_eq_some_iff.1 h.pr).1
theorem RowAt.put_same {C : Array Value} {k : Nat} {s : Rg} (h : RowAt C k s) (r : Rg) : RowAt (put4 C k r) k r := by
  have hz := h.size
  have e1 : ¬ k * 4 + 1 = k * 4 := by omega
  have e2 : ¬ k * 4 + 2 = k * 4 := by omega
  have e3 : ¬ k * 4 + 3 = k * 4 := by omega
  constructor <;> unfold put4 <;> simp [Array.getElem?_setIfInBounds] <;> omega
theorem RowAt.put_other {C : Array Value} {k i : Nat} {s : Rg} (h : RowAt C k s) (hne : k ≠ i) (r : Rg) : RowAt (put4 C i r) k s := by
  obtain ⟨h0, h1, h2, h3⟩ := h
  constructor <;> unfold put4
  · rw [Array.getElem?_setIfInBounds_ne (by omega), Array.getElem?_setIfInBounds_ne (by omega), Array.getElem?_setIfInBounds_ne (by omega), Array.getElem?_setIfInBounds_ne (by omega)]; exact h0
  · rw [Array.getElem?_setIfInBounds_ne (by omega), Array.getElem?_setIfInBounds_ne (by omega), Array.getElem?_setIfInBounds_ne (by omega), Array.getElem?_setIfInBounds_ne (by omega)]; exact h1
  · rw [Array.getElem?_setIfInBounds_ne (by omega), Array.getElem?_setIfInBounds_ne (by omega), Array.getElem?_setIfInBounds_ne (by omega), Array.getElem?_setIfInBounds_ne (by omega)]; exact h2
  · rw [Array.getElem?_setIfInBounds_ne (by omega), Array.getElem?_setIfInBounds_ne (by omega), Array.getElem?_setIfInBounds_ne (by omega), Array.getElem?_setIfInBounds_ne (by omega)]; exact h3
theorem heap_set1 {w : World} {b : Nat} {C : Array Value} {T : TypeId} (h : w.heap[b]? = some (.cells C T)) (o : Nat) (v : Value) :
    (w.setCell ⟨b, o, none⟩ v).heap[b]? = some (.cells (C.setIfInBounds o v) T) := by
  simp [World.setCell, h, Array.getElem?_modify]
theorem heap_put4 {w : World} {b : Nat} {C : Array Value} {T : TypeId} (h : w.heap[b]? = some (.cells C T)) (k : Nat) (r : Rg) :
    ((((w.setCell ⟨b, k * 4, none⟩ (.string r.lo)).setCell ⟨b, k * 4 + 1, none⟩ (.string r.hi)).setCell ⟨b, k * 4 + 2, none⟩ (.string r.is)).setCell ⟨b, k * 4 + 3, none⟩ (.string r.pr)).heap[b]? = some (.cells (put4 C k r) T) :=
  heap_set1 (heap_set1 (heap_set1 (heap_set1 h _ _) _ _) _ _) _ _
theorem put4_below {B b k : Nat} {w w2 : World} {y0 y1 y2 y3 : Value} (h : Below B w w2) (hb : B ≤ b) : Below B w ((((w2.setCell ⟨b, k * 4, none⟩ y0).setCell ⟨b, k * 4 + 1, none⟩ y1).setCell ⟨b, k * 4 + 2, none⟩ y2).setCell ⟨b, k * 4 + 3, none⟩ y3) :=
  (((h.setCell (p := ⟨b, k * 4, none⟩) hb _).setCell (p := ⟨b, k * 4 + 1, none⟩) hb _).setCell (p := ⟨b, k * 4 + 2, none⟩) hb _).setCell (p := ⟨b, k * 4 + 3, none⟩) hb _
/-- The block holds the ranges in the order d; what lies below it is as it was. -/
def RowS (f : Nat → Rg) (blk : Nat) (w0 : World) (d : Array Nat) (w : World) : Prop := ∃ C, w.heap[blk]? = some (.cells C 26) ∧ (∀ k, k < d.size → RowAt C k (f d[k]!)) ∧ Below blk w0 w
theorem RowS.later {f : Nat → Rg} {blk : Nat} {w0 w w' : World} {d : Array Nat} (h : RowS f blk w0 d w) (hb : Below w.heap.size w w') : RowS f blk w0 d w' := by
  obtain ⟨C, h1, h2, h3⟩ := h
  exact ⟨C, blk_later h1 hb, h2, h3.trans (hb.mono (Nat.le_of_lt (Array.getElem?_eq_some_iff.1 h1).1))⟩
theorem RowS.cells {f : Nat → Rg} {blk : Nat} {w0 w : World} {d : Array Nat} (h : RowS f blk w0 d w) (k : Nat) (hk : k < d.size) :
    w.cell? ⟨blk, k * 4, none⟩ = some (.string (f d[k]!).lo) ∧ w.cell? ⟨blk, k * 4 + 1, none⟩ = some (.string (f d[k]!).hi) ∧ w.cell? ⟨blk, k * 4 + 2, none⟩ = some (.string (f d[k]!).is) ∧ w.cell? ⟨blk, k * 4 + 3, none⟩ = some (.string (f d[k]!).pr) := by
  obtain ⟨C, h1, h2, h3⟩ := h
  obtain ⟨c0, c1, c2, c3⟩ := h2 k hk
  exact ⟨(cell_c h1 _).trans c0, (cell_c h1 _).trans c1, (cell_c h1 _).trans c2, (cell_c h1 _).trans c3⟩
theorem RowS.free {f : Nat → Rg} {blk : Nat} {w0 w : World} {d : Array Nat} (h : RowS f blk w0 d w) (o : Nat) : w.frozen? ⟨blk, o, none⟩ = false := by
  obtain ⟨C, h1, h2, h3⟩ := h
  exact cell_f h1 _
theorem RowS.lt {f : Nat → Rg} {blk : Nat} {w0 w : World} {d : Array Nat} (h : RowS f blk w0 d w) : blk < w.heap.size := by
  obtain ⟨C, h1, h2, h3⟩ := h
  exact (Array.getElem?_eq_some_iff.1 h1).1
theorem RowS.drew {f : Nat → Rg} {blk : Nat} {w0 w : World} {d : Array Nat} (h : RowS f blk w0 d w) : RowS f blk w0 d w.drew := h.later ⟨rfl, rfl, rfl, Nat.le_refl _, fun _ _ => rfl⟩
theorem RowS.swap {f : Nat → Rg} {blk : Nat} {w0 w : World} {d : Array Nat} (h : RowS f blk w0 d w) (i j : Nat) (hi : i < d.size) (hj : j < d.size) (ri rj : Rg) (ei : f d[i]! = ri) (ej : f d[j]! = rj) :
    RowS f blk w0 (swp d i j) (((((((((w.setCell ⟨blk, i * 4, none⟩ (.string rj.lo)).setCell ⟨blk, i * 4 + 1, none⟩ (.string rj.hi)).setCell ⟨blk, i * 4 + 2, none⟩ (.string rj.is)).setCell ⟨blk, i * 4 + 3, none⟩ (.string rj.pr)).setCell ⟨blk, j * 4, none⟩ (.string ri.lo)).setCell ⟨blk, j * 4 + 1, none⟩ (.string ri.hi)).setCell ⟨blk, j * 4 + 2, none⟩ (.string ri.is)).setCell ⟨blk, j * 4 + 3, none⟩ (.string ri.pr)).drew) := by
  obtain ⟨C, h1, h2, h3⟩ := h
  refine RowS.drew (w := ((((((((w.setCell _ _).setCell _ _).setCell _ _).setCell _ _).setCell _ _).setCell _ _).setCell _ _).setCell _ _)) ⟨put4 (put4 C i rj) j ri, heap_put4 (heap_put4 h1 i rj) j ri, fun k hk => ?_, put4_below (put4_below h3 (Nat.le_refl _)) (Nat.le_refl _)⟩
  rw [swp_size] at hk
  have ho := h2 k hk
  rw [swp_get d hi hj k]
  by_cases q2 : k = j
  · rw [if_pos q2, ei]; subst q2
    by_cases q1 : k = i
    · subst q1; exact ((h2 k hk).put_same rj).put_same ri
    · exact (ho.put_other q1 rj).put_same ri
  · rw [if_neg q2]
    by_cases q1 : k = i
    · rw [if_pos q1, ej]; subst q1
      exact (ho.put_same rj).put_other q2 ri
    · rw [if_neg q1]
      exact (ho.put_other q1 rj).put_other q2 ri
/-- The comparison of two places answers cm, wherever. -/
def CmpR (f : Nat → Rg) (cm : Nat → Nat → Int) (N : Nat) : Prop := ∀ (W : World) (x y : Nat), x < N → y < N →
    Calls Tryz.prog 28 #[.agg (rgC (f x)), .agg (rgC (f y))] W fun e w' => e = .returned (.int .i64 (cm x y)) ∧ Below W.heap.size W w'
theorem swp_all {N : Nat} {d : Array Nat} (h : ∀ k, k < d.size → d[k]! < N) {i j : Nat} (hi : i < d.size) (hj : j < d.size) : ∀ k, k < (swp d i j).size → (swp d i j)[k]! < N := by
  intro k hk
  rw [swp_size] at hk
  rw [swp_get d hi hj]
  split
  · exact h i hi
  · split
    · exact h j hj
    · exact h k hk
end Go.Proofs.YtiegoffdbhmfbaaGreatDoor
