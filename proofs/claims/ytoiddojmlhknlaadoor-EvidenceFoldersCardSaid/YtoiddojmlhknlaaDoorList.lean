/- The plain laws of a folder: items as lists of cells; the kinds that are missing. No program. -/
import Derived.WalkKit
import Derived.Lib.Hide
namespace Go.Proofs.YtoiddojmlhknlaaDoor
set_option linter.unusedVariables false

/-- An item of evidence. -/
structure Itm where
  k : ByteArray
  n : Int
  h : Int
theorem Itm.ext_ {a b : Itm} (h1 : a.k = b.k) (h2 : a.n = b.n) (h3 : a.h = b.h) : a = b := by cases a; cases b; simp_all
instance : DecidableEq Itm := fun a b => if h : a.k.data = b.k.data ∧ a.n = b.n ∧ a.h = b.h then isTrue (Itm.ext_ (ByteArray.ext h.1) h.2.1 h.2.2) else isFalse (fun e => h (by subst e; exact ⟨rfl, rfl, rfl⟩))
def Itm.val (i : Itm) : Value := .agg #[.string i.k, .int .i64 i.n, .int .u64 i.h]
def Itm.cells (i : Itm) : List Value := [.string i.k, .int .i64 i.n, .int .u64 i.h]
def cellsOf (l : List Itm) : List Value := l.flatMap Itm.cells
theorem cellsOf_length (l : List Itm) : (cellsOf l).length = l.length * 3 := by
  induction l with
  | nil => rfl
  | cons a l ih =>
    have : cellsOf (a :: l) = a.cells ++ cellsOf l := rfl
    rw [this, List.length_append, ih, List.length_cons]
    show 3 + l.length * 3 = _
    omega
theorem cellsOf_append (l m : List Itm) : cellsOf (l ++ m) = cellsOf l ++ cellsOf m := by simp [cellsOf]
theorem cellsOf_one (i : Itm) : cellsOf [i] = i.cells := by simp [cellsOf]
theorem cellsOf_at (l : List Itm) (i : Nat) (h : i < l.length) :
    (cellsOf l)[i * 3]? = some (.string l[i].k) ∧ (cellsOf l)[i * 3 + 1]? = some (.int .i64 l[i].n) ∧ (cellsOf l)[i * 3 + 2]? = some (.int .u64 l[i].h) := by
  induction l generalizing i with
  | nil => simp at h
  | cons a l ih =>
    have e : cellsOf (a :: l) = a.cells ++ cellsOf l := rfl
    rw [e]
    match i with
    | 0 => exact ⟨rfl, rfl, rfl⟩
    | i + 1 =>
      have hl : a.cells.length = 3 := rfl
      have h' : i < l.length := by simpa using h
      obtain ⟨h1, h2, h3⟩ := ih i h'
      refine ⟨?_, ?_, ?_⟩
      · rw [List.getElem?_append_right (by omega), hl, show (i + 1) * 3 - 3 = i * 3 by omega]; exact h1
      · rw [List.getElem?_append_right (by omega), hl, show (i + 1) * 3 + 1 - 3 = i * 3 + 1 by omega]; exact h2
      · rw [List.getElem?_append_right (by omega), hl, show (i + 1) * 3 + 2 - 3 = i * 3 + 2 by omega]; exact h3
theorem cellsOf_one' (l : List Itm) : ∀ u ∈ cellsOf l, u.oneCell' = true := by
  intro u hu
  obtain ⟨i, _, hi⟩ := List.mem_flatMap.1 hu
  simp [Itm.cells] at hi
  rcases hi with rfl | rfl | rfl <;> rfl

def strsOf (l : List ByteArray) : List Value := l.map .string
theorem strsOf_length (l : List ByteArray) : (strsOf l).length = l.length := by simp [strsOf]
theorem strsOf_one' (l : List ByteArray) : ∀ u ∈ strsOf l, u.oneCell' = true := by
  intro u hu
  obtain ⟨s, _, rfl⟩ := List.mem_map.1 hu
  rfl
def beqB (a b : ByteArray) : Bool := decide (a.data = b.data)
theorem beqB_iff (a b : ByteArray) : beqB a b = true ↔ a = b := by
  unfold beqB; rw [decide_eq_true_iff]; exact ⟨ByteArray.ext, fun h => by rw [h]⟩
/-- Is a text among some texts? -/
def hasB (l : List ByteArray) (x : ByteArray) : Bool := l.any (beqB x)
theorem hasB_iff (l : List ByteArray) (x : ByteArray) : hasB l x = true ↔ x ∈ l := by
  unfold hasB; rw [List.any_eq_true]
  exact ⟨fun ⟨y, hy, h⟩ => by rw [(beqB_iff _ _).1 h]; exact hy, fun h => ⟨x, h, (beqB_iff _ _).2 rfl⟩⟩
theorem hasB_append (l m : List ByteArray) (x : ByteArray) : hasB (l ++ m) x = (hasB l x || hasB m x) := by simp [hasB]
theorem hasB_one (y x : ByteArray) : hasB [y] x = beqB x y := by simp [hasB]
def missStep (ks : List ByteArray) (r : List ByteArray) (x : ByteArray) : List ByteArray := if hasB ks x || hasB r x then r else r ++ [x]
/-- The kinds that are needed and not there, each once. -/
def missL (ks needs : List ByteArray) : List ByteArray := needs.foldl (missStep ks) []
theorem missL_snoc (ks l : List ByteArray) (x : ByteArray) : missL ks (l ++ [x]) = missStep ks (missL ks l) x := by simp [missL]
theorem missStep_len (ks r : List ByteArray) (x : ByteArray) : (missStep ks r x).length ≤ r.length + 1 := by
  unfold missStep; split <;> simp
theorem missL_len (ks l : List ByteArray) : (missL ks l).length ≤ l.length := by
  have key : ∀ (l : List ByteArray) r, (l.foldl (missStep ks) r).length ≤ r.length + l.length := by
    intro l
    induction l with
    | nil => intro r; simp
    | cons x l ih =>
      intro r
      have h1 := ih (missStep ks r x)
      have h2 := missStep_len ks r x
      simp only [List.foldl_cons, List.length_cons]; omega
  have := key l []
  simpa [missL] using this
def cntB (l : List ByteArray) (x : ByteArray) : Nat := (l.filter (beqB x)).length
theorem cntB_append (l m : List ByteArray) (x : ByteArray) : cntB (l ++ m) x = cntB l x + cntB m x := by simp [cntB]
theorem cntB_one (y x : ByteArray) : cntB [y] x = if beqB x y then 1 else 0 := by
  unfold cntB; cases h : beqB x y <;> simp [List.filter, h]
theorem cntB_pos (l : List ByteArray) (x : ByteArray) : hasB l x = true → 1 ≤ cntB l x := by
  intro h
  have hx := (hasB_iff l x).1 h
  unfold cntB
  have : x ∈ l.filter (beqB x) := List.mem_filter.2 ⟨hx, (beqB_iff _ _).2 rfl⟩
  exact List.length_pos_of_mem this
theorem cntB_zero (l : List ByteArray) (x : ByteArray) : hasB l x = false → cntB l x = 0 := by
  intro h
  unfold cntB
  rw [List.length_eq_zero_iff, List.filter_eq_nil_iff]
  intro a ha hb
  have e := (beqB_iff _ _).1 hb
  subst e
  rw [(hasB_iff l x).2 ha] at h
  cases h
/-- What is missing holds each kind at most once, and none that is there. -/
theorem missL_inv (ks l : List ByteArray) : (∀ x, hasB ks x = true → hasB (missL ks l) x = false) ∧ (∀ x, cntB (missL ks l) x ≤ 1) ∧ (∀ x, hasB l x = true → hasB ks x = false → hasB (missL ks l) x = true) := by
  have key : ∀ (l : List ByteArray) r, (∀ x, hasB ks x = true → hasB r x = false) → (∀ x, cntB r x ≤ 1) →
      (∀ x, hasB ks x = true → hasB (l.foldl (missStep ks) r) x = false) ∧ (∀ x, cntB (l.foldl (missStep ks) r) x ≤ 1) ∧ (∀ x, (hasB l x = true ∨ hasB r x = true) → hasB ks x = false → hasB (l.foldl (missStep ks) r) x = true) := by
    intro l
    induction l with
    | nil => intro r h1 h2; exact ⟨h1, h2, fun x h _ => by rcases h with h | h; simp [hasB] at h; exact h⟩
    | cons y l ih =>
      intro r h1 h2
      have hs1 : ∀ x, hasB ks x = true → hasB (missStep ks r y) x = false := by
        intro x hx
        unfold missStep
        split
        · exact h1 x hx
        · rename_i hc
          rw [hasB_append, hasB_one, h1 x hx]
          cases hb : beqB x y
          · rfl
          · exfalso
            have e := (beqB_iff _ _).1 hb
            subst e
            rw [hx] at hc; simp at hc
      have hs2 : ∀ x, cntB (missStep ks r y) x ≤ 1 := by
        intro x
        unfold missStep
        split
        · exact h2 x
        · rename_i hc
          rw [cntB_append, cntB_one]
          cases hb : beqB x y
          · simpa using h2 x
          · have e := (beqB_iff _ _).1 hb
            subst e
            have : hasB r x = false := by cases hr : hasB r x; rfl; rw [hr] at hc; simp at hc
            rw [cntB_zero _ _ this]; simp
      obtain ⟨i1, i2, i3⟩ := ih (missStep ks r y) hs1 hs2
      refine ⟨i1, i2, fun x hx hk => i3 x ?_ hk⟩
      have hcons : hasB (y :: l) x = (beqB x y || hasB l x) := by simp [hasB]
      rw [hcons] at hx
      unfold missStep
      cases hb : beqB x y
      · rw [hb] at hx
        rcases hx with hx | hx
        · exact .inl (by simpa using hx)
        · refine .inr ?_
          split
          · exact hx
          · rw [hasB_append, hx]; rfl
      · have e := (beqB_iff _ _).1 hb
        subst e
        refine .inr ?_
        split
        · rename_i hc
          rw [hk] at hc
          simpa using hc
        · rw [hasB_append, hasB_one, hb]; simp
  obtain ⟨a, b, c⟩ := key l [] (fun x _ => by simp [hasB]) (fun x => by simp [cntB])
  exact ⟨a, b, fun x h => c x (.inl h)⟩
theorem miss_count (ks l : List ByteArray) (x : ByteArray) (h : x ∈ l) : cntB (missL ks l) x = if hasB ks x then 0 else 1 := by
  obtain ⟨a, b, c⟩ := missL_inv ks l
  cases hk : hasB ks x
  · have h1 := cntB_pos _ _ (c x ((hasB_iff _ _).2 h) hk)
    have h2 := b x
    simp; omega
  · rw [cntB_zero _ _ (a x hk)]; rfl
end Go.Proofs.YtoiddojmlhknlaaDoor
