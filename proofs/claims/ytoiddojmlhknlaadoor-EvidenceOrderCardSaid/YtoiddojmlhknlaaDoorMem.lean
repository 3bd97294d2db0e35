/- Words for memory: slices that read as a list, sets of texts, folders. -/
import Derived.Test.YtoiddojmlhknlaaDoorChk
import Derived.Test.YtoiddojmlhknlaaDoorList
import Derived.Laws.OwnMore
import Derived.Deep.AppendLies
import Derived.Deep.Draws
import Derived.Maps.Own
import Derived.Maps.OwnSet
import Derived.Maps.Views
import Derived.Maps.AppendAt
import Derived.StringKeys
import Derived.OwnWalk
import Derived.OneCell
namespace Go.Proofs.YtoiddojmlhknlaaDoor
set_option linter.unusedVariables false
open Go.RowKit Go.Maps

/-- The cells of a slice at this address are these. -/
def IsRow (w : World) (A : Option Addr) (xs : List Value) : Prop := xs.length = 0 ∨ ∃ b off, A = some ⟨b, off, none⟩ ∧ ∀ j v, xs[j]? = some v → w.cell? ⟨b, off + j, none⟩ = some v
theorem IsRow.below {w w' : World} {A : Option Addr} {xs : List Value} (h : IsRow w A xs) (hb : Below w.heap.size w w') : IsRow w' A xs := by
  rcases h with h | ⟨b, off, rfl, h⟩
  · exact .inl h
  · refine .inr ⟨b, off, rfl, fun j v hj => ?_⟩
    have hc := h j v hj
    rw [hb.cell (p := ⟨b, off + j, none⟩) (World.block_lt_of_cell? w _ hc)]; exact hc
theorem IsRow.of_own {w : World} {base : Nat} {e : TypeId} {size n c : Nat} {A : Option Addr} {xs : List Value} (h : w.ownsRow base e size (.slice A n c) n xs) : IsRow w A xs := by
  obtain ⟨h1, h2⟩ := h
  rcases h2 with ⟨hv, hn⟩ | ⟨g, cap, cur, hv, hb, hg, r1, r2, r3, r4⟩
  · exact .inl (by rw [h1, hn]; omega)
  · refine .inr ⟨g, 0, by injection hv, fun j v hj => ?_⟩
    rw [cell_of_row w g (0 + j) cur e (0, 0) hg, Nat.zero_add]
    rw [← r4, List.getElem?_take] at hj
    split at hj
    · simpa using hj
    · cases hj
/-- The value of a row of one's own. -/
theorem own_form {w : World} {base : Nat} {e : TypeId} {size n : Nat} {v : Value} {xs : List Value} (h : w.ownsRow base e size v n xs) : ∃ A c, v = .slice A n c ∧ IsRow w A xs ∧ n ≤ c := by
  rcases h.2 with ⟨hv, hn⟩ | ⟨g, cap, cur, hv, hb, hg, r1, r⟩
  · subst hn
    exact ⟨none, 0, hv, .inl (by rw [h.1]; omega), Nat.le_refl _⟩
  · exact ⟨_, cap, hv, IsRow.of_own (c := cap) (by rw [← hv]; exact h), r1⟩
theorem own_below {w w' : World} {base B : Nat} {e : TypeId} {size n : Nat} {v : Value} {xs : List Value} (h : w.ownsRow base e size v n xs) (hb : Below w.heap.size w w') : w'.ownsRow base e size v n xs :=
  h.kept (row := none) ⟨hb.os, hb.tape, hb.output, hb.size, fun k hk _ => hb.block k hk⟩ (by cases hv : v.ownBlock <;> simp)
theorem grown_below {w w' : World} {row : Option Nat} {B : Nat} (hg : w.grownBy w' row) (hB : B ≤ w.heap.size) (hr : ∀ k, row = some k → B ≤ k) : Below B w w' :=
  (Below.refl B w).grown hg hB hr

theorem law9 : Keyed Tryd.prog 9 := string_keyed Tryd.underlying9
theorem zero4 (w : World) : (zeroValue 4).run Tryd.prog w = .ok (.bool false) w := by kernel_rfl
/-- Block b is a map that holds true at the texts of l, and at no other. -/
def SSet (w : World) (b : Nat) (l : List ByteArray) : Prop :=
  ∃ (n : Nat) (D : DataW Unit), w.ownsMap Tryd.prog 9 (plainElem Tryd.prog 4) b n D ∧ IsMap D ∧ n ≤ l.length ∧ ∀ s : ByteArray, D.atKey (.string s.data.toList) (.lit (.bool false)) = .lit (.bool (hasB l s))
theorem SSet.made (w : World) : SSet (w.alloc (.map #[] 0)) w.heap.size [] :=
  ⟨0, .map [], World.ownsMap_made _ _ _ _, isMap_empty, by simp, fun d => rfl⟩
theorem SSet.kept {w w' : World} {b : Nat} {l : List ByteArray} (h : SSet w b l) {row : Option Nat} (hg : w.grownBy w' row) (hne : some b ≠ row) : SSet w' b l := by
  obtain ⟨n, D, h1, h2, h3, h4⟩ := h
  exact ⟨n, D, h1.kept hg hne, h2, h3, h4⟩
theorem SSet.lt {w : World} {b : Nat} {l : List ByteArray} (h : SSet w b l) : b < w.heap.size := by
  obtain ⟨n, D, h1, h2, h3, h4⟩ := h
  exact h1.lt
theorem SSet.look {w : World} {b : Nat} {l : List ByteArray} (h : SSet w b l) (s : ByteArray) (hs : s.size ≤ maxLen) :
    (Instr.lookup 56 (.map (some b)) (.string s) false).run Tryd.prog w = .ok (.bool (hasB l s)) w := by
  obtain ⟨n, D, h1, h2, h3, h4⟩ := h
  obtain ⟨v, ps, hrun, hv⟩ := h1.lookup law9 Tryd.underlying56 (zero4 w) (plainElem_bool Tryd.underlying4 false) (Go.WideMaps.keyOf_string_mk Tryd.underlying9 hs)
  rw [h4 s] at hv
  rw [hrun]
  unfold plainElem at hv
  rw [Tryd.underlying4] at hv
  cases v <;> simp at hv
  rw [hv.1]
theorem SSet.put {w : World} {b : Nat} {l : List ByteArray} (h : SSet w b l) (hl : l.length < 1000000) (s : ByteArray) (hs : s.size ≤ maxLen) :
    ∃ w', (Instr.mapUpdate 56 (.map (some b)) (.string s) (.bool true)).run Tryd.prog w = .ok () w' ∧ SSet w' b (l ++ [s]) ∧ w.grownBy w' (some b) := by
  obtain ⟨n, D, h1, h2, h3, h4⟩ := h
  obtain ⟨w', hrun, hown, hg⟩ := h1.update law9 Tryd.underlying56 (by unfold maxLen; omega) (Go.WideMaps.keyOf_string_mk Tryd.underlying9 hs) (plainElem_bool Tryd.underlying4 true)
  refine ⟨w', hrun, ⟨n + 1, _, hown, h2.put _ _, by simp; omega, fun x => ?_⟩, hg⟩
  rw [hasB_append, hasB_one]
  by_cases hx : x = s
  · subst hx
    rw [atKey_put_same h2 (show WideAt.IsKeyLit (.string x.data.toList) from trivial), (beqB_iff x x).2 rfl]; simp
  · have hne : beqB x s = false := by
      cases hb : beqB x s
      · rfl
      · exact absurd ((beqB_iff _ _).1 hb) hx
    rw [atKey_put_other (by intro e; injection e with e; exact hx (ByteArray.ext (Array.toList_inj.1 e))), h4 x, hne]; simp

/-- From w to w' nothing has turned but the blocks in S, and what is new. -/
structure Only (S : Nat → Prop) (w w' : World) : Prop where
  os : w'.os = w.os
  tape : w'.tape = w.tape
  output : w'.output = w.output
  size : w.heap.size ≤ w'.heap.size
  block : ∀ k, k < w.heap.size → ¬ S k → w'.heap[k]? = w.heap[k]?
theorem Only.refl (S : Nat → Prop) (w : World) : Only S w w := ⟨rfl, rfl, rfl, Nat.le_refl _, fun _ _ _ => rfl⟩
theorem Only.trans {S : Nat → Prop} {a b c : World} (h : Only S a b) (k : Only S b c) : Only S a c :=
  ⟨k.os.trans h.os, k.tape.trans h.tape, k.output.trans h.output, Nat.le_trans h.size k.size, fun i hi hs => (k.block i (Nat.lt_of_lt_of_le hi h.size) hs).trans (h.block i hi hs)⟩
theorem Only.mono {S T : Nat → Prop} {a b : World} (h : Only S a b) (hst : ∀ k, k < a.heap.size → S k → T k) : Only T a b :=
  ⟨h.os, h.tape, h.output, h.size, fun i hi hs => h.block i hi (fun c => hs (hst i hi c))⟩
/-- Two steps, of which the second may turn blocks that are new behind the first. -/
theorem Only.trans' {S T : Nat → Prop} {a b c : World} (h : Only S a b) (k : Only T b c) (hst : ∀ k, k < a.heap.size → T k → S k) : Only S a c :=
  ⟨k.os.trans h.os, k.tape.trans h.tape, k.output.trans h.output, Nat.le_trans h.size k.size, fun i hi hs => (k.block i (Nat.lt_of_lt_of_le hi h.size) (fun t => hs (hst i hi t))).trans (h.block i hi hs)⟩
theorem Only.of_below {S : Nat → Prop} {a b : World} (h : Below a.heap.size a b) : Only S a b := ⟨h.os, h.tape, h.output, h.size, fun i hi _ => h.block i hi⟩
theorem Only.below {S : Nat → Prop} {a b : World} (h : Only S a b) (B : Nat) (hB : B ≤ a.heap.size) (hs : ∀ k, k < B → ¬ S k) : Below B a b := ⟨h.os, h.tape, h.output, h.size, fun i hi => h.block i (Nat.lt_of_lt_of_le hi hB) (hs i hi)⟩
theorem own_only {S : Nat → Prop} {w w' : World} {base : Nat} {e : TypeId} {size n : Nat} {v : Value} {xs : List Value} (h : w.ownsRow base e size v n xs) (hb : Only S w w') (hs : ∀ g, v.ownBlock = some g → ¬ S g) : w'.ownsRow base e size v n xs := by
  refine ⟨h.1, ?_⟩
  rcases h.2 with hn | ⟨g, cap, cur, rfl, hbb, hgg, rest⟩
  · exact .inl hn
  · refine .inr ⟨g, cap, cur, rfl, hbb, ?_, rest⟩
    rw [hb.block g (Array.getElem?_eq_some_iff.1 hgg).1 (hs g rfl)]
    exact hgg

/-- Block bf is a folder with these items, which lie in the row ob; both are the call's own, from block B on. -/
def FolderW (w : World) (B bf : Nat) (ob : Option Nat) (l : List Itm) : Prop := ∃ v, B ≤ bf ∧ v.ownBlock = ob ∧ w.heap[bf]? = some (.cells #[v] 47 (0, 0)) ∧ w.ownsRow B 35 3 v l.length (cellsOf l)
theorem FolderW.lt {w : World} {B bf : Nat} {ob : Option Nat} {l : List Itm} (h : FolderW w B bf ob l) : bf < w.heap.size := by
  obtain ⟨v, h0, hv, h1, h2⟩ := h
  exact (Array.getElem?_eq_some_iff.1 h1).1
theorem FolderW.ge {w : World} {B bf : Nat} {ob : Option Nat} {l : List Itm} (h : FolderW w B bf ob l) : B ≤ bf ∧ ∀ g, ob = some g → B ≤ g ∧ g < w.heap.size ∧ g ≠ bf := by
  obtain ⟨v, h0, rfl, h1, h2⟩ := h
  refine ⟨h0, fun g hg => ⟨(h2.lt g hg).1, (h2.lt g hg).2, ?_⟩⟩
  rintro rfl
  rcases h2.2 with ⟨rfl, _⟩ | ⟨g', cap, cur, rfl, _, hh, _⟩
  · cases hg
  · have e : g' = g := by simpa [Value.ownBlock] using hg
    subst e
    rw [h1] at hh
    injection hh with hh
    injection hh with _ ht
    cases ht
theorem FolderW.only {S : Nat → Prop} {w w' : World} {B bf : Nat} {ob : Option Nat} {l : List Itm} (h : FolderW w B bf ob l) (hb : Only S w w') (h1 : ¬ S bf) (h2 : ∀ g, ob = some g → ¬ S g) : FolderW w' B bf ob l := by
  have hlt := h.lt
  obtain ⟨v, a, rfl, b, c⟩ := h
  exact ⟨v, a, rfl, by rw [hb.block bf hlt h1]; exact b, own_only c hb h2⟩
theorem FolderW.below {w w' : World} {B bf : Nat} {ob : Option Nat} {l : List Itm} (h : FolderW w B bf ob l) (hb : Below w.heap.size w w') : FolderW w' B bf ob l :=
  h.only (S := fun _ => False) (Only.of_below hb) (fun h => h) (fun _ _ h => h)
/-- What a folder's cell holds, and where its items lie. -/
theorem FolderW.open_ {w : World} {B bf : Nat} {ob : Option Nat} {l : List Itm} (h : FolderW w B bf ob l) : ∃ A c, w.heap[bf]? = some (.cells #[.slice A l.length c] 47 (0, 0)) ∧ (Value.slice A l.length c).ownBlock = ob ∧ IsRow w A (cellsOf l) ∧ l.length ≤ c ∧ w.ownsRow B 35 3 (.slice A l.length c) l.length (cellsOf l) := by
  obtain ⟨v, h0, hv, h1, h2⟩ := h
  obtain ⟨A, c, rfl, hr, hc⟩ := own_form h2
  exact ⟨A, c, h1, hv, hr, hc, h2⟩
end Go.Proofs.YtoiddojmlhknlaaDoor
