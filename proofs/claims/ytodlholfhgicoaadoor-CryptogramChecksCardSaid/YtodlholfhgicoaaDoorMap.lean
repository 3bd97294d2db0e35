/- A map from tokens to histories. -/
import Derived.Test.YtodlholfhgicoaaDoorHist3
import Derived.Maps.OwnSet
import Derived.Maps.Views
import Derived.Lib.LaidTab
namespace Go.Proofs.YtodlholfhgicoaaDoor
set_option linter.unusedVariables false
open Go.RowKit Go.Sort Go.Maps

/-- How a cell of a history reads. -/
def litOf : Value → Option (DataW Unit)
  | .int .i64 n => some (.lit (.int .i64 n))
  | .bool b => some (.lit (.bool b))
  | _ => none
theorem litOf_int {v : Value} {n : Int} (h : litOf v = some (.lit (.int .i64 n))) : v = .int .i64 n := by
  unfold litOf at h
  split at h
  · injection h with h; injection h with h; injection h with _ h; rw [h]
  · injection h with h; injection h with h; cases h
  · cases h
theorem litOf_bool {v : Value} {b : Bool} (h : litOf v = some (.lit (.bool b))) : v = .bool b := by
  unfold litOf at h
  split at h
  · injection h with h; injection h with h; cases h
  · injection h with h; injection h with h; injection h with h; rw [h]
  · cases h
def encL (n : Int) (f : Nat → Bool) : List (DataW Unit) := .lit (.int .i64 n) :: (List.range 64).map (fun i => .lit (.bool (f i)))
def encH (n : Int) (f : Nat → Bool) : DataW Unit := .agg (encL n f)
/-- How a history reads. -/
def Rh (v : Value) : Option (DataW Unit × List MemPlace) := match v with | .agg cs => (cs.toList.mapM litOf).map (fun l => (.agg l, [])) | _ => none
theorem histC_list (n : Int) (f : Nat → Bool) : (histC n f).toList = .int .i64 n :: (List.range 64).map (fun i => .bool (f i)) := by
  unfold histC
  rw [Array.toList_append, Array.toList_map, Array.toList_range]; rfl
theorem mapM_bools (f : Nat → Bool) (l : List Nat) : (l.map (fun i => Value.bool (f i))).mapM litOf = some (l.map (fun i => (DataW.lit (.bool (f i)) : DataW Unit))) := by
  induction l with
  | nil => rfl
  | cons x l ih => rw [List.map_cons, List.mapM_cons, ih]; rfl
theorem Rh_mk (n : Int) (f : Nat → Bool) : Rh (.agg (histC n f)) = some (encH n f, []) := by
  unfold Rh
  simp only [histC_list, List.mapM_cons, mapM_bools]
  rfl
theorem Rh_inv {v : Value} {n : Int} {f : Nat → Bool} {ps : List MemPlace} (h : Rh v = some (encH n f, ps)) : v = .agg (histC n f) := by
  unfold Rh at h
  split at h
  · rename_i cs
    obtain ⟨l, hl, he⟩ := Option.map_eq_some_iff.1 h
    have hle : l = encL n f := by
      have := congrArg Prod.fst he
      injection this
    subst hle
    congr 1
    apply Array.ext_getElem?
    intro i
    have hlen := Lib.mapM_length hl
    have hel : (encL n f).length = 65 := by simp [encL]
    rw [hel] at hlen
    have hcs : cs.size = 65 := by rw [← Array.length_toList]; exact hlen.symm
    rcases Nat.lt_or_ge i 65 with hi | hi
    · have hx : cs.toList[i]? = some (cs[i]'(by omega)) := by rw [Array.getElem?_toList, Array.getElem?_eq_getElem]
      obtain ⟨b, hb, hf⟩ := Lib.mapM_at hl i _ hx
      rw [Array.getElem?_eq_getElem (by omega)]
      rcases Nat.eq_zero_or_pos i with h0 | h0
      · subst h0
        have : b = .lit (.int .i64 n) := by simpa [encL] using hb.symm
        rw [this] at hf
        rw [histC_0, litOf_int hf]
      · obtain ⟨j, rfl⟩ : ∃ j, i = 1 + j := ⟨i - 1, by omega⟩
        have hbj : b = .lit (.bool (f j)) := by
          unfold encL at hb
          rw [show 1 + j = j + 1 by omega, List.getElem?_cons_succ, List.getElem?_map, List.getElem?_range (by omega)] at hb
          simpa using hb.symm
        rw [hbj] at hf
        rw [histC_at _ _ _ (by omega), litOf_bool hf]
    · rw [Array.getElem?_eq_none (by omega), Array.getElem?_eq_none (by rw [histC_size]; omega)]
  · cases h
abbrev Hst := Int × (Nat → Bool)
def lkey (t : ByteArray) : Lit := .string t.data.toList
theorem law9 : Keyed Tryd.prog 9 := string_keyed Tryd.underlying9
theorem zero71 (w : World) : (zeroValue 71).run Tryd.prog w = .ok (.agg (histC 0 (fun _ => false))) w := by rw [Tryd.zeroValue71, zero_hist]
/-- Block b is a map of sz entries from tokens to histories: m. -/
def HMap (w : World) (b : Nat) (m : ByteArray → Option Hst) (sz : Nat) : Prop :=
  ∃ D : DataW Unit, w.ownsMap Tryd.prog 9 Rh b sz D ∧ Maps.size D = sz ∧ ∀ t : ByteArray, Maps.has D (lkey t) = (m t).isSome ∧ ∀ h, m t = some h → ∀ zd, D.atKey (lkey t) zd = encH h.1 h.2
theorem HMap.made (w : World) : HMap (w.alloc (.map #[] 0)) w.heap.size (fun _ => none) 0 :=
  ⟨.map [], World.ownsMap_made _ _ _ _, rfl, fun t => ⟨rfl, fun h hh => by cases hh⟩⟩
theorem HMap.kept {w w' : World} {b : Nat} {m : ByteArray → Option Hst} {sz : Nat} (h : HMap w b m sz) {row : Option Nat} (hg : w.grownBy w' row) (hne : some b ≠ row) : HMap w' b m sz := by
  obtain ⟨D, h1, h2⟩ := h
  exact ⟨D, h1.kept hg hne, h2⟩
theorem HMap.below {w w' : World} {b : Nat} {m : ByteArray → Option Hst} {sz : Nat} (h : HMap w b m sz) (hb : Below w.heap.size w w') : HMap w' b m sz :=
  h.kept (row := none) ⟨hb.os, hb.tape, hb.output, hb.size, fun k hk _ => hb.block k hk⟩ (by simp)
theorem HMap.lt {w : World} {b : Nat} {m : ByteArray → Option Hst} {sz : Nat} (h : HMap w b m sz) : b < w.heap.size := by
  obtain ⟨D, h1, _⟩ := h
  exact h1.lt
def histOf (o : Option Hst) : Hst := o.getD (0, fun _ => false)
theorem HMap.look_ok {w : World} {b : Nat} {m : ByteArray → Option Hst} {sz : Nat} (h : HMap w b m sz) (t : ByteArray) (ht : t.size ≤ maxLen) :
    (Instr.lookup 62 (.map (some b)) (.string t) true).run Tryd.prog w = .ok (.tuple #[.agg (histC (histOf (m t)).1 (histOf (m t)).2), .bool (m t).isSome]) w := by
  obtain ⟨D, h1, h2, h3⟩ := h
  obtain ⟨v, ps, hrun, hv⟩ := h1.look_ok law9 Tryd.underlying62 (zero71 w) (Rh_mk 0 (fun _ => false)) (WideMaps.keyOf_string_mk Tryd.underlying9 ht)
  obtain ⟨k1, k2⟩ := h3 t
  unfold lkey at k1 k2
  rw [hrun, k1]
  cases hm : m t with
  | none =>
    rw [hm] at k1
    rw [Maps.atKey_of_not_has k1] at hv
    rw [Rh_inv hv]; rfl
  | some x =>
    rw [k2 x hm] at hv
    rw [Rh_inv hv]; rfl
theorem HMap.look {w : World} {b : Nat} {m : ByteArray → Option Hst} {sz : Nat} (h : HMap w b m sz) (t : ByteArray) (ht : t.size ≤ maxLen) :
    (Instr.lookup 62 (.map (some b)) (.string t) false).run Tryd.prog w = .ok (.agg (histC (histOf (m t)).1 (histOf (m t)).2)) w := by
  obtain ⟨D, h1, h2, h3⟩ := h
  obtain ⟨v, ps, hrun, hv⟩ := h1.lookup law9 Tryd.underlying62 (zero71 w) (Rh_mk 0 (fun _ => false)) (WideMaps.keyOf_string_mk Tryd.underlying9 ht)
  obtain ⟨k1, k2⟩ := h3 t
  unfold lkey at k1 k2
  rw [hrun]
  cases hm : m t with
  | none =>
    rw [hm] at k1
    rw [Maps.atKey_of_not_has k1] at hv
    rw [Rh_inv hv]; rfl
  | some x =>
    rw [k2 x hm] at hv
    rw [Rh_inv hv]; rfl
theorem HMap.len {w : World} {b : Nat} {m : ByteArray → Option Hst} {sz : Nat} (h : HMap w b m sz) (ty : TypeId) : (Builtin.len_ #[62] ty #[.map (some b)]).run Tryd.prog w = .ok (.int .i64 sz) w := by
  obtain ⟨D, h1, h2, h3⟩ := h
  rw [h1.len Tryd.underlying62 ty, h2]
def updM (m : ByteArray → Option Hst) (t : ByteArray) (h : Hst) : ByteArray → Option Hst := fun x => if x = t then some h else m x
theorem HMap.store {w : World} {b : Nat} {m : ByteArray → Option Hst} {sz : Nat} (h : HMap w b m sz) (hsz : sz < 1000000) (t : ByteArray) (ht : t.size ≤ maxLen) (x : Hst) :
    ∃ w', (Instr.mapUpdate 62 (.map (some b)) (.string t) (.agg (histC x.1 x.2))).run Tryd.prog w = .ok () w' ∧ HMap w' b (updM m t x) (if (m t).isSome then sz else sz + 1) ∧ w.grownBy w' (some b) := by
  obtain ⟨D, h1, h2, h3⟩ := h
  have htidy := h1.tidy law9
  obtain ⟨w', hrun, hown, hg⟩ := h1.update law9 Tryd.underlying62 (by unfold maxLen; omega) (WideMaps.keyOf_string_mk Tryd.underlying9 ht) (Rh_mk x.1 x.2)
  refine ⟨w', hrun, ⟨D.put (lkey t) (encH x.1 x.2), ?_, ?_, fun y => ?_⟩, hg⟩
  · obtain ⟨es, clock, hb, F, hs, hD⟩ := hown
    refine ⟨es, clock, hb, F, ?_, hD⟩
    have e1 : Maps.size (D.put (lkey t) (encH x.1 x.2)) = es.size := by
      show Maps.size (D.put (.string t.data.toList) (encH x.1 x.2)) = _
      rw [hD]; simp [Maps.size, length_sorted]
    rw [Maps.size_put htidy, (h3 t).1, h2] at e1
    omega
  · show Maps.size (D.put (lkey t) (encH x.1 x.2)) = _
    rw [Maps.size_put htidy, (h3 t).1, h2]
  · unfold updM
    by_cases hy : y = t
    · subst hy
      rw [if_pos rfl]
      refine ⟨Maps.has_put_same htidy.isMap (show WideAt.IsKeyLit (lkey y) from trivial) _, fun h hh zd => ?_⟩
      obtain rfl : x = h := Option.some.inj hh
      generalize encH x.1 x.2 = dd
      exact Maps.atKey_put_same htidy.isMap (show WideAt.IsKeyLit (lkey y) from trivial) dd zd
    · rw [if_neg hy]
      have hne : lkey y ≠ lkey t := by
        intro e
        unfold lkey at e
        injection e with e
        exact hy (ByteArray.ext (Array.ext' e))
      refine ⟨(Maps.has_put_other hne _).trans (h3 y).1, fun h hh zd => ?_⟩
      exact (Maps.atKey_put_other hne _ zd).trans ((h3 y).2 h hh zd)
end Go.Proofs.YtodlholfhgicoaaDoor
