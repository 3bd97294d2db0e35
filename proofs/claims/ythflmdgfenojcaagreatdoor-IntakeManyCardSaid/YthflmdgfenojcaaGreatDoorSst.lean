/- Sets of texts: a map from texts to true. -/
import Derived.Test.YthflmdgfenojcaaGreatDoorBdf
import Derived.Maps.Own
import Derived.Maps.OwnSet
import Derived.Maps.Views
import Derived.OneCell
namespace Go.Proofs.YthflmdgfenojcaaGreatDoor
set_option linter.unusedVariables false
open Go.RowKit Go.Maps

theorem law9 : Keyed Tryz.prog 9 := string_keyed Tryz.underlying9
theorem zero4 (w : World) : (zeroValue 4).run Tryz.prog w = .ok (.bool false) w := by kernel_rfl
def skey (t : ByteArray) : Lit := .string t.data.toList
theorem skey_inj {x y : ByteArray} (h : skey x = skey y) : x = y := by
  unfold skey at h
  injection h with h
  exact ByteArray.ext (Array.ext' h)
/-- Block b is a map that holds true at the texts of l, and at no other. -/
def SSet (w : World) (b : Nat) (l : List ByteArray) : Prop :=
  ∃ (n : Nat) (D : DataW Unit), w.ownsMap Tryz.prog 9 (plainElem Tryz.prog 4) b n D ∧ IsMap D ∧ n ≤ l.length ∧ ∀ d : ByteArray, D.atKey (skey d) (.lit (.bool false)) = .lit (.bool (decide (d ∈ l)))
theorem SSet.made (w : World) : SSet (w.alloc (.map #[] 0)) w.heap.size [] :=
  ⟨0, .map [], World.ownsMap_made _ _ _ _, isMap_empty, by simp, fun d => by simp only [List.not_mem_nil, decide_false]; rfl⟩
theorem SSet.kept {w w' : World} {b : Nat} {l : List ByteArray} (h : SSet w b l) {row : Option Nat} (hg : w.grownBy w' row) (hne : some b ≠ row) : SSet w' b l := by
  obtain ⟨n, D, h1, h2, h3, h4⟩ := h
  exact ⟨n, D, h1.kept hg hne, h2, h3, h4⟩
theorem SSet.below {w w' : World} {b : Nat} {l : List ByteArray} (h : SSet w b l) (hb : Below w.heap.size w w') : SSet w' b l :=
  h.kept (row := none) ⟨hb.os, hb.tape, hb.output, hb.size, fun k hk _ => hb.block k hk⟩ (by simp)
theorem SSet.lt {w : World} {b : Nat} {l : List ByteArray} (h : SSet w b l) : b < w.heap.size := by
  obtain ⟨n, D, h1, h2, h3, h4⟩ := h
  exact h1.lt
set_option maxRecDepth 100000 in
theorem SSet.look {w : World} {b : Nat} {l : List ByteArray} (h : SSet w b l) (d : ByteArray) (hd : d.size ≤ maxLen) :
    (Instr.lookup 143 (.map (some b)) (.string d) false).run Tryz.prog w = .ok (.bool (decide (d ∈ l))) w := by
  obtain ⟨n, D, h1, h2, h3, h4⟩ := h
  obtain ⟨v, ps, hrun, hv⟩ := h1.lookup law9 Tryz.underlying143 (zero4 w) (plainElem_bool Tryz.underlying4 false) (WideMaps.keyOf_string_mk Tryz.underlying9 hd)
  have h5 := h4 d
  unfold skey at h5
  rw [h5] at hv
  rw [hrun]
  unfold plainElem at hv
  rw [Tryz.underlying4] at hv
  cases v <;> simp at hv
  rw [hv.1]
set_option maxRecDepth 100000 in
theorem SSet.put {w : World} {b : Nat} {l : List ByteArray} (h : SSet w b l) (hl : l.length < 1000000) (d : ByteArray) (hd : d.size ≤ maxLen) :
    ∃ w', (Instr.mapUpdate 143 (.map (some b)) (.string d) (.bool true)).run Tryz.prog w = .ok () w' ∧ SSet w' b (l ++ [d]) ∧ w.grownBy w' (some b) := by
  obtain ⟨n, D, h1, h2, h3, h4⟩ := h
  obtain ⟨w', hrun, hown, hg⟩ := h1.update law9 Tryz.underlying143 (by unfold maxLen; omega) (WideMaps.keyOf_string_mk Tryz.underlying9 hd) (plainElem_bool Tryz.underlying4 true)
  refine ⟨w', hrun, ⟨n + 1, _, hown, h2.put _ _, by simp; omega, fun x => ?_⟩, hg⟩
  by_cases hx : x = d
  · subst hx
    exact (atKey_put_same h2 (show WideAt.IsKeyLit (skey x) from trivial) _ _).trans (by simp)
  · refine (atKey_put_other (fun e => hx (skey_inj e)) _ _).trans ?_
    rw [h4 x]; simp [hx]
theorem Below.ofGrown {w w' : World} {B b : Nat} (hg : w.grownBy w' (some b)) (hB : B ≤ w.heap.size) (hb : B ≤ b) : Below B w w' :=
  (Below.refl B w).grown hg hB (fun x hx => by cases hx; exact hb)
end Go.Proofs.YthflmdgfenojcaaGreatDoor
