/- The law Once: the plain law of a run of accepts. -/
import Derived.Test.YtodlholfhgicoaaDoorLBnd
namespace Go.Proofs.YtodlholfhgicoaaDoor
set_option linter.unusedVariables false
open Go.RowKit Go.Sort Go.Maps

theorem card_inj (a b : Nat) (ha : a < 4) (hb : b < 4) (h : cardS a = cardS b) : a = b := by
  have e : ∀ a, a < 4 → ∀ b, b < 4 → cardS a = cardS b → a = b := by decide
  exact e a ha b hb h
theorem card_mod (n : Nat) : cardS (n % 4) = cardS n := by unfold cardS; rw [Nat.mod_mod]
/-- How many of the four tokens are known. -/
def cntM (m : ByteArray → Option Hst) : Nat := (if (m (cardS 0)).isSome then 1 else 0) + (if (m (cardS 1)).isSome then 1 else 0) + (if (m (cardS 2)).isSome then 1 else 0) + (if (m (cardS 3)).isSome then 1 else 0)
theorem cntM_le (m : ByteArray → Option Hst) : cntM m ≤ 4 := by unfold cntM; split <;> split <;> split <;> split <;> omega
theorem upd_at (m : ByteArray → Option Hst) (k j : Nat) (h : Hst) (hk : k < 4) (hj : j < 4) : updM m (cardS k) h (cardS j) = if j = k then some h else m (cardS j) := by
  unfold updM
  by_cases e : j = k
  · rw [if_pos e, if_pos (by rw [e])]
  · rw [if_neg e, if_neg (fun q => e (card_inj j k hj hk q))]
theorem cntM_upd (m : ByteArray → Option Hst) (k : Nat) (h : Hst) (hk : k < 4) : cntM (updM m (cardS k) h) = if (m (cardS k)).isSome = false then cntM m + 1 else cntM m := by
  unfold cntM
  rw [upd_at m k 0 h hk (by omega), upd_at m k 1 h hk (by omega), upd_at m k 2 h hk (by omega), upd_at m k 3 h hk (by omega)]
  have hc : k = 0 ∨ k = 1 ∨ k = 2 ∨ k = 3 := by omega
  rcases hc with rfl | rfl | rfl | rfl
  · cases h0 : (m (cardS 0)).isSome <;> simp <;> omega
  · cases h0 : (m (cardS 1)).isSome <;> simp <;> omega
  · cases h0 : (m (cardS 2)).isSome <;> simp <;> omega
  · cases h0 : (m (cardS 3)).isSome <;> simp <;> omega
/-- What holds behind i payments: (tr j).1 is the token of payment j, (tr j).2 + 1 its counter. -/
structure OnceI (win : Int) (tr : Nat → Nat × Nat) (i : Nat) (m : ByteArray → Option Hst) (L : Nat → Int) : Prop where
  good : GoodM m
  none : ∀ k, k < 4 → (m (cardS k) = none ↔ L k = 0)
  hist : ∀ k, k < 4 → (histOf (m (cardS k))).1 = L k
  low : ∀ k, k < 4 → 0 ≤ L k
  upp : ∀ k, k < 4 → L k ≤ 65536
  le : ∀ k, k < 4 → ∀ j, j < i → (tr j).1 % 4 = k → ((tr j).2 : Int) + 1 ≤ L k
  mem : ∀ k, k < 4 → ∀ n : Int, 1 ≤ n → L k - win ≤ n → n ≤ L k → ((histOf (m (cardS k))).2 (L k - n).toNat = true ↔ ∃ j, j < i ∧ (tr j).1 % 4 = k ∧ ((tr j).2 : Int) + 1 = n)
theorem once_start (win : Int) (tr : Nat → Nat × Nat) : OnceI win tr 0 m0 (fun _ => 0) := by
  refine ⟨(fun t h q => by cases q), fun k _ => ⟨fun _ => rfl, fun _ => rfl⟩, fun k _ => rfl, fun k _ => by omega, fun k _ => by omega, fun k _ j hj => by omega, fun k _ n h1 h2 h3 => by omega⟩
/-- Whether payment i is like none of the first j. -/
def newB (tr : Nat → Nat × Nat) (i : Nat) : Nat → Bool
  | 0 => true
  | j + 1 => newB tr i j && (decide ((tr j).1 % 4 ≠ (tr i).1 % 4) || decide ((tr j).2 ≠ (tr i).2))
theorem newB_true (tr : Nat → Nat × Nat) (i j : Nat) : newB tr i j = true ↔ ∀ j', j' < j → ¬ ((tr j').1 % 4 = (tr i).1 % 4 ∧ (tr j').2 = (tr i).2) := by
  induction j with
  | zero => simp [newB]
  | succ j ih =>
    unfold newB
    rw [Bool.and_eq_true, ih, Bool.or_eq_true, decide_eq_true_eq, decide_eq_true_eq]
    constructor
    · rintro ⟨h1, h2⟩ j' hj' ⟨e1, e2⟩
      by_cases e : j' = j
      · subst e; rcases h2 with h2 | h2
        · exact h2 e1
        · exact h2 e2
      · exact h1 j' (by omega) ⟨e1, e2⟩
    · intro h
      refine ⟨fun j' hj' => h j' (by omega), ?_⟩
      have := h j (by omega)
      by_cases e : (tr j).1 % 4 = (tr i).1 % 4
      · right; exact fun q => this ⟨e, q⟩
      · left; exact e
def mayB (win : Int) (tr : Nat → Nat × Nat) (i : Nat) (L : Nat → Int) (j : Nat) : Bool := (decide (L ((tr i).1 % 4) = 0) || decide (L ((tr i).1 % 4) - win ≤ ((tr i).2 : Int) + 1)) && newB tr i j
/-- The payment is accepted exactly if it may be. -/
theorem may_used {win : Int} {tr : Nat → Nat × Nat} {i : Nat} {m : ByteArray → Option Hst} {L : Nat → Int} (h : OnceI win tr i m L) (hw : 0 ≤ win) : mayB win tr i L i = !usedM m (cardS ((tr i).1 % 4)) (((tr i).2 : Int) + 1) win := by
  have hk : (tr i).1 % 4 < 4 := Nat.mod_lt _ (by decide)
  have i1 := h.none _ hk
  have i2 := h.hist _ hk
  have i3 := h.low _ hk
  have i4 := h.le _ hk
  have i5 := h.mem _ hk
  have hN := newB_true tr i i
  unfold mayB usedM usedB
  rw [i2]
  generalize (tr i).1 % 4 = k at *
  generalize hf : (histOf (m (cardS k))).2 = f at *
  have e : ∀ a b : Bool, (a = true ↔ b = false) → a = !b := by intro a b; cases a <;> cases b <;> simp
  apply e
  rw [Bool.and_eq_true, Bool.or_eq_true, decide_eq_true_eq, decide_eq_true_eq, hN]
  cases hm : m (cardS k) with
  | none =>
    have h0 := i1.1 hm
    constructor
    · intro _; rfl
    · intro _
      refine ⟨.inl h0, fun j hj q => ?_⟩
      have := i4 j hj q.1
      omega
  | some x =>
    have h0 : L k ≠ 0 := fun q => by have := i1.2 q; rw [hm] at this; cases this
    show _ ↔ (true && _) = false
    rw [Bool.true_and]
    by_cases c1 : L k < ((tr i).2 : Int) + 1
    · rw [if_pos c1]
      constructor
      · intro _; rfl
      · intro _
        refine ⟨.inr (by omega), fun j hj q => ?_⟩
        have := i4 j hj q.1
        omega
    · rw [if_neg c1]
      by_cases c2 : ((tr i).2 : Int) + 1 < L k - win
      · rw [if_pos c2]
        constructor
        · intro q; rcases q.1 with q | q <;> omega
        · intro q; cases q
      · rw [if_neg c2]
        have := i5 (((tr i).2 : Int) + 1) (by omega) (by omega) (by omega)
        constructor
        · intro q
          rw [Bool.eq_false_iff]
          intro hf'
          obtain ⟨j, hj, e1, e2⟩ := this.1 hf'
          exact q.2 j hj ⟨e1, by omega⟩
        · intro q
          refine ⟨.inr (by omega), fun j hj qq => ?_⟩
          have hq := this.2 ⟨j, hj, qq.1, by omega⟩
          rw [q] at hq; cases hq
def putL (L : Nat → Int) (k : Nat) (n : Int) : Nat → Int := fun j => if j = k then max (L k) n else L j
theorem accF_true (sh : Nat) (f : Nat → Bool) (j : Nat) (h : j ≠ 0) : accF sh f j = true ↔ sh ≤ j ∧ f (j - sh) = true := by
  unfold accF
  rw [if_neg h, Bool.and_eq_true, decide_eq_true_eq]
theorem once_put {win : Int} {tr : Nat → Nat × Nat} {i : Nat} {m : ByteArray → Option Hst} {L : Nat → Int} (h : OnceI win tr i m L) (hw : 0 ≤ win) (hb : (tr i).2 < 65536) :
    OnceI win tr (i + 1) (updM m (cardS ((tr i).1 % 4)) (newH (histOf (m (cardS ((tr i).1 % 4)))) (((tr i).2 : Int) + 1))) (putL L ((tr i).1 % 4) (((tr i).2 : Int) + 1)) := by
  have hk : (tr i).1 % 4 < 4 := Nat.mod_lt _ (by decide)
  have hkk : ∃ k, k = (tr i).1 % 4 := ⟨_, rfl⟩
  obtain ⟨k, hke⟩ := hkk
  rw [← hke] at hk ⊢
  have i2 := h.hist _ hk
  have i3 := h.low _ hk
  have i4 := h.le _ hk
  have i5 := h.mem _ hk
  have i6 := h.upp _ hk
  obtain ⟨n, hn⟩ : ∃ n : Int, ((tr i).2 : Int) + 1 = n := ⟨_, rfl⟩
  rw [hn]
  have hn1 : 1 ≤ n := by omega
  have hn2 : n ≤ 65536 := by omega
  have hN : (newH (histOf (m (cardS k))) n).1 = max (L k) n := by
    unfold newH
    rw [i2]
    by_cases c : n ≤ L k
    · rw [if_pos c]; show L k = _; omega
    · rw [if_neg c]; show n = _; omega
  refine ⟨?_, ?_, ?_, ?_, ?_, ?_, ?_⟩
  · intro t x hx
    unfold updM at hx
    split at hx
    · obtain rfl := Option.some.inj hx; rw [hN]; omega
    · exact h.good t x hx
  · intro j hj
    rw [upd_at m k j _ hk hj]
    unfold putL
    by_cases e : j = k
    · rw [if_pos e, if_pos e]
      constructor
      · intro q; cases q
      · intro q; omega
    · rw [if_neg e, if_neg e]; exact h.none j hj
  · intro j hj
    rw [upd_at m k j _ hk hj]
    unfold putL
    by_cases e : j = k
    · rw [if_pos e, if_pos e]; exact hN
    · rw [if_neg e, if_neg e]; exact h.hist j hj
  · intro j hj
    unfold putL
    by_cases e : j = k
    · rw [if_pos e]; omega
    · rw [if_neg e]; exact h.low j hj
  · intro j hj
    unfold putL
    by_cases e : j = k
    · rw [if_pos e]; omega
    · rw [if_neg e]; exact h.upp j hj
  · intro j hj j' hj' e
    unfold putL
    by_cases e1 : j = k
    · rw [if_pos e1]
      by_cases e2 : j' = i
      · subst e2; omega
      · have := i4 j' (by omega) (by omega); omega
    · rw [if_neg e1]
      by_cases e2 : j' = i
      · subst e2; omega
      · exact h.le j hj j' (by omega) e
  · intro j hj n' h1 h2 h3
    rw [upd_at m k j _ hk hj]
    unfold putL at h2 h3 ⊢
    by_cases e : j = k
    · subst e
      rw [if_pos rfl] at h2 h3 ⊢
      rw [if_pos rfl]
      show (newH (histOf (m (cardS j))) n).2 (max (L j) n - n').toNat = true ↔ _
      have key : (newH (histOf (m (cardS j))) n).2 (max (L j) n - n').toNat = true ↔ (n' = n ∨ ∃ j', j' < i ∧ (tr j').1 % 4 = j ∧ ((tr j').2 : Int) + 1 = n') := by
        unfold newH
        rw [i2]
        by_cases c : n ≤ L j
        · rw [if_pos c]
          show (if (max (L j) n - n').toNat = (L j - n).toNat then true else (histOf (m (cardS j))).2 (max (L j) n - n').toNat) = true ↔ _
          rw [show max (L j) n = L j by omega] at h2 h3 ⊢
          by_cases c2 : n' = n
          · rw [if_pos (by rw [c2])]; exact ⟨fun _ => .inl c2, fun _ => rfl⟩
          · rw [if_neg (by omega), i5 n' h1 h2 h3]
            exact ⟨fun q => .inr q, fun q => q.resolve_left c2⟩
        · rw [if_neg c]
          show accF (n - L j).toNat (histOf (m (cardS j))).2 (max (L j) n - n').toNat = true ↔ _
          rw [show max (L j) n = n by omega] at h2 h3 ⊢
          by_cases c2 : n' = n
          · subst c2
            rw [show (n' - n').toNat = 0 by omega]
            exact ⟨fun _ => .inl rfl, fun _ => rfl⟩
          · rw [accF_true _ _ _ (by omega)]
            by_cases c3 : n' ≤ L j
            · rw [show (n - n').toNat - (n - L j).toNat = (L j - n').toNat by omega, i5 n' h1 (by omega) c3]
              exact ⟨fun q => .inr q.2, fun q => ⟨by omega, q.resolve_left c2⟩⟩
            · constructor
              · intro q; omega
              · rintro (q | ⟨j', a, b, d⟩)
                · exact absurd q c2
                · have := i4 j' a b; omega
      rw [key]
      constructor
      · rintro (rfl | ⟨j', a, b, d⟩)
        · exact ⟨i, by omega, hke.symm, hn⟩
        · exact ⟨j', by omega, b, d⟩
      · rintro ⟨j', a, b, d⟩
        by_cases e2 : j' = i
        · subst e2; left; omega
        · exact .inr ⟨j', by omega, b, d⟩
    · rw [if_neg e] at h2 h3 ⊢
      rw [if_neg e, h.mem j hj n' h1 h2 h3]
      constructor
      · rintro ⟨j', a, b, d⟩; exact ⟨j', by omega, b, d⟩
      · rintro ⟨j', a, b, d⟩
        refine ⟨j', ?_, b, d⟩
        by_cases e2 : j' = i
        · subst e2; omega
        · omega
theorem once_skip {win : Int} {tr : Nat → Nat × Nat} {i : Nat} {m : ByteArray → Option Hst} {L : Nat → Int} (h : OnceI win tr i m L) (hw : 0 ≤ win) (hu : usedM m (cardS ((tr i).1 % 4)) (((tr i).2 : Int) + 1) win = true) :
    OnceI win tr (i + 1) m L := by
  have hk : (tr i).1 % 4 < 4 := Nat.mod_lt _ (by decide)
  have hkk : ∃ k, k = (tr i).1 % 4 := ⟨_, rfl⟩
  obtain ⟨k, hke⟩ := hkk
  rw [← hke] at hk hu
  have i2 := h.hist _ hk
  unfold usedM usedB at hu
  rw [i2, Bool.and_eq_true] at hu
  obtain ⟨u1, u2⟩ := hu
  have hle : ((tr i).2 : Int) + 1 ≤ L k := by
    by_cases c : L k < ((tr i).2 : Int) + 1
    · rw [if_pos c] at u2; cases u2
    · omega
  rw [if_neg (by omega)] at u2
  refine ⟨h.good, h.none, h.hist, h.low, h.upp, ?_, ?_⟩
  · intro j hj j' hj' e
    by_cases e2 : j' = i
    · subst e2
      obtain rfl : j = k := by omega
      exact hle
    · exact h.le j hj j' (by omega) e
  · intro j hj n h1 h2 h3
    rw [h.mem j hj n h1 h2 h3]
    constructor
    · rintro ⟨j', a, b, d⟩; exact ⟨j', by omega, b, d⟩
    · rintro ⟨j', a, b, d⟩
      by_cases e2 : j' = i
      · subst e2
        obtain rfl : j = k := by omega
        rw [if_neg (by omega), d] at u2
        exact (h.mem j hj n h1 h2 h3).1 u2
      · exact ⟨j', by omega, b, d⟩
theorem last_put {win : Int} {tr : Nat → Nat × Nat} {i : Nat} {m : ByteArray → Option Hst} {L : Nat → Int} (h : OnceI win tr i m L) (k : Nat) (hk : k < 4) : lastM m (cardS k) = L k := h.hist k hk
/-- What was just accepted is used. -/
theorem used_put {win : Int} {tr : Nat → Nat × Nat} {i : Nat} {m : ByteArray → Option Hst} {L : Nat → Int} (h : OnceI win tr (i + 1) m L) (hw : 0 ≤ win) : usedM m (cardS ((tr i).1 % 4)) (((tr i).2 : Int) + 1) win = true := by
  have hk : (tr i).1 % 4 < 4 := Nat.mod_lt _ (by decide)
  have i0 := h.none _ hk
  have i2 := h.hist _ hk
  have i4 := h.le _ hk i (by omega) rfl
  have i5 := h.mem _ hk (((tr i).2 : Int) + 1) (by omega)
  unfold usedM usedB
  rw [i2]
  have hs : (m (cardS ((tr i).1 % 4))).isSome = true := by
    cases hm : m (cardS ((tr i).1 % 4)) with
    | none => have := i0.1 hm; omega
    | some x => rfl
  rw [hs, Bool.true_and, if_neg (by omega)]
  split
  · rfl
  · exact (i5 (by omega) i4).2 ⟨i, by omega, rfl, rfl⟩
theorem mkE_card (t : Nat) (c : Int) (c1 : 1 ≤ c) (c2 : c ≤ 999999) : mkE (cardS t) c 100 eurS ⟨#[]⟩ = 0 := by
  have hp : ∀ t, t < 4 → panE (cardS t) = 0 := by decide
  unfold mkE
  rw [← card_mod, if_neg (by rw [hp _ (Nat.mod_lt _ (by decide))]; simp), if_neg (by omega), if_neg (show ¬ monE 100 eurS ≠ 0 by decide), if_neg (show ¬ nonB ⟨#[]⟩ = false by decide)]
theorem ckE_once (k : Nat) (win : Int) (m : ByteArray → Option Hst) (t : Nat) (c : Int) (c1 : 1 ≤ c) (c2 : c ≤ 999999) : ckE k win m (cntM m) (cardS t) c 100 eurS ⟨#[]⟩ (mkV k (cardS t) c 100 eurS ⟨#[]⟩) = if usedM m (cardS t) c win = true then 15 else 0 := by
  have := cntM_le m
  unfold ckE
  rw [if_neg (by rw [mkE_card t c c1 c2]; simp), if_neg (by simp)]
  split
  · rfl
  · rw [if_neg (by omega)]
end Go.Proofs.YtodlholfhgicoaaDoor
