/- The law Checks: the plain law of the map of histories and the reference's lists. -/
import Derived.Test.YtodlholfhgicoaaDoorLBnd
namespace Go.Proofs.YtodlholfhgicoaaDoor
set_option linter.unusedVariables false
open Go.RowKit Go.Sort Go.Maps

/-- The reference's state: the tokens in the order in which they came, each with the counters that were accepted. -/
abbrev RSt := List (ByteArray × List Int)
def cntO : RSt → ByteArray → Option (List Int)
  | [], _ => none
  | x :: rs, t => if x.1 = t then some x.2 else cntO rs t
def cntR (rs : RSt) (t : ByteArray) : List Int := (cntO rs t).getD []
def maxL (l : List Int) : Int := l.foldl max 0
def usedR (rs : RSt) (t : ByteArray) (c win : Int) : Bool := decide (c ∈ cntR rs t) || (decide (0 < (cntR rs t).length) && decide (c < maxL (cntR rs t) - win))
/-- The state behind an accepted counter. -/
def addR : RSt → ByteArray → Int → RSt
  | [], t, c => [(t, [c])]
  | x :: rs, t, c => if x.1 = t then (x.1, x.2 ++ [c]) :: rs else x :: addR rs t c
structure HRel (h : Hst) (cs : List Int) : Prop where
  mem : h.1 ∈ cs
  rng : ∀ x ∈ cs, 1 ≤ x ∧ x ≤ 999999
  le : ∀ x ∈ cs, x ≤ h.1
  acc : ∀ n : Int, h.1 - 63 ≤ n → n ≤ h.1 → (h.2 (h.1 - n).toNat = true ↔ n ∈ cs)
structure ChkI (m : ByteArray → Option Hst) (sz : Nat) (rs : RSt) : Prop where
  len : sz = rs.length
  none : ∀ t, m t = none ↔ cntO rs t = none
  some : ∀ t h cs, m t = some h → cntO rs t = some cs → HRel h cs
theorem chk_start : ChkI m0 0 [] := ⟨rfl, fun t => ⟨fun _ => rfl, fun _ => rfl⟩, fun t h cs q => by cases q⟩
theorem maxL_aux (l : List Int) (a : Int) : (∀ x ∈ l, x ≤ l.foldl max a) ∧ a ≤ l.foldl max a ∧ (l.foldl max a = a ∨ l.foldl max a ∈ l) := by
  induction l generalizing a with
  | nil => exact ⟨(fun x h => by cases h), Int.le_refl _, .inl rfl⟩
  | cons y l ih =>
    rw [List.foldl_cons]
    obtain ⟨h1, h2, h3⟩ := ih (max a y)
    refine ⟨fun x hx => ?_, by omega, ?_⟩
    · rcases List.mem_cons.1 hx with rfl | hx
      · omega
      · exact h1 x hx
    · rcases h3 with h3 | h3
      · by_cases q : a ≤ y
        · right; rw [h3, show max a y = y by omega]; exact List.mem_cons_self
        · left; rw [h3]; omega
      · right; exact List.mem_cons_of_mem _ h3
theorem HRel.max {h : Hst} {cs : List Int} (r : HRel h cs) : maxL cs = h.1 := by
  obtain ⟨h1, h2, h3⟩ := maxL_aux cs 0
  have a := h1 _ r.mem
  have b := (r.rng _ r.mem).1
  unfold maxL
  rcases h3 with h3 | h3
  · omega
  · have := r.le _ h3; omega
theorem HRel.pos {h : Hst} {cs : List Int} (r : HRel h cs) : 0 < cs.length := List.length_pos_of_mem r.mem
theorem chk_good {m : ByteArray → Option Hst} {sz : Nat} {rs : RSt} (h : ChkI m sz rs) : GoodM m := by
  intro t x hx
  cases hc : cntO rs t with
  | none => have := (h.none t).2 hc; rw [hx] at this; cases this
  | some cs => exact (h.some t x cs hx hc).rng _ (h.some t x cs hx hc).mem
theorem chk_last {m : ByteArray → Option Hst} {sz : Nat} {rs : RSt} (h : ChkI m sz rs) (t : ByteArray) : lastM m t = maxL (cntR rs t) := by
  unfold lastM cntR
  cases hm : m t with
  | none => rw [(h.none t).1 hm]; rfl
  | some x =>
    cases hc : cntO rs t with
    | none => have := (h.none t).2 hc; rw [hm] at this; cases this
    | some cs => exact (h.some t x cs hm hc).max.symm
theorem bool_iff {a b : Bool} (h : a = true ↔ b = true) : a = b := by cases a <;> cases b <;> simp_all
theorem chk_used {m : ByteArray → Option Hst} {sz : Nat} {rs : RSt} (h : ChkI m sz rs) (t : ByteArray) (c win : Int) (w0 : 0 ≤ win) (w1 : win ≤ 63) : usedM m t c win = usedR rs t c win := by
  unfold usedM usedR cntR
  cases hm : m t with
  | none => rw [(h.none t).1 hm]; rfl
  | some x =>
    cases hc : cntO rs t with
    | none => have := (h.none t).2 hc; rw [hm] at this; cases this
    | some cs =>
      have r := h.some t x cs hm hc
      have hp := r.pos
      show (true && usedB x.1 x.2 c win) = (decide (c ∈ cs) || (decide (0 < cs.length) && decide (c < maxL cs - win)))
      rw [Bool.true_and, decide_eq_true hp, Bool.true_and, r.max]
      apply bool_iff
      unfold usedB
      rw [Bool.or_eq_true, decide_eq_true_eq, decide_eq_true_eq]
      by_cases c1 : x.1 < c
      · rw [if_pos c1]
        constructor
        · intro q; cases q
        · rintro (q | q)
          · have := r.le _ q; omega
          · omega
      · rw [if_neg c1]
        by_cases c2 : c < x.1 - win
        · rw [if_pos c2]; exact ⟨fun _ => .inr c2, fun _ => rfl⟩
        · rw [if_neg c2, r.acc c (by omega) (by omega)]
          exact ⟨fun q => .inl q, fun q => q.resolve_right c2⟩
theorem cntO_add (rs : RSt) (t : ByteArray) (c : Int) (y : ByteArray) : cntO (addR rs t c) y = if y = t then some ((cntO rs t).getD [] ++ [c]) else cntO rs y := by
  induction rs with
  | nil =>
    unfold addR cntO
    by_cases q : y = t
    · rw [if_pos q, if_pos q.symm]; rfl
    · rw [if_neg q, if_neg (fun e => q e.symm)]; rfl
  | cons x rs ih =>
    unfold addR
    by_cases q : x.1 = t
    · rw [if_pos q]
      by_cases q2 : y = t
      · rw [if_pos q2, cntO, if_pos (by rw [q, q2]), cntO, if_pos q]; rfl
      · rw [if_neg q2, cntO, if_neg (fun e => q2 (by rw [← e, q])), cntO, if_neg (fun e => q2 (by rw [← e, q]))]
    · rw [if_neg q, cntO]
      by_cases q2 : x.1 = y
      · rw [if_pos q2, if_neg (fun e => q (by rw [q2, e])), cntO, if_pos q2]
      · rw [if_neg q2, ih]
        by_cases q3 : y = t
        · rw [if_pos q3, if_pos q3, cntO, if_neg q]
        · rw [if_neg q3, if_neg q3, cntO, if_neg q2]
theorem addR_len (rs : RSt) (t : ByteArray) (c : Int) : (addR rs t c).length = if (cntO rs t).isSome then rs.length else rs.length + 1 := by
  induction rs with
  | nil => rfl
  | cons x rs ih =>
    unfold addR cntO
    by_cases q : x.1 = t
    · rw [if_pos q, if_pos q]; rfl
    · rw [if_neg q, if_neg q, List.length_cons, ih, List.length_cons]; split <;> rfl
theorem chk_isSome {m : ByteArray → Option Hst} {sz : Nat} {rs : RSt} (h : ChkI m sz rs) (t : ByteArray) : (m t).isSome = (cntO rs t).isSome := by
  have := h.none t
  cases hm : m t with
  | none => rw [this.1 hm]; rfl
  | some x =>
    cases hc : cntO rs t with
    | none => have := (h.none t).2 hc; rw [hm] at this; cases this
    | some cs => rfl
/-- Behind an accepted counter. -/
theorem chk_add {m : ByteArray → Option Hst} {sz : Nat} {rs : RSt} (h : ChkI m sz rs) (t : ByteArray) (c win : Int) (w0 : 0 ≤ win) (w1 : win ≤ 63) (c1 : 1 ≤ c) (c2 : c ≤ 999999) (hu : usedM m t c win = false) :
    ChkI (updM m t (newH (histOf (m t)) c)) (if (m t).isSome = false then sz + 1 else sz) (addR rs t c) := by
  refine ⟨?_, ?_, ?_⟩
  · rw [addR_len, chk_isSome h t, h.len]
    cases (cntO rs t).isSome <;> rfl
  · intro y
    rw [cntO_add]
    unfold updM
    by_cases q : y = t
    · rw [if_pos q, if_pos q]; exact ⟨(fun e => by cases e), (fun e => by cases e)⟩
    · rw [if_neg q, if_neg q]; exact h.none y
  · intro y h' cs' e1 e2
    rw [cntO_add] at e2
    unfold updM at e1
    by_cases q : y = t
    · rw [if_pos q] at e1 e2
      obtain rfl := Option.some.inj e1
      obtain rfl := Option.some.inj e2
      cases hm : m t with
      | none =>
        rw [(h.none t).1 hm, newH_first c c1]
        refine ⟨by simp, fun x hx => by simp at hx; omega, fun x hx => by simp at hx; show x ≤ c; omega, fun n n1 n2 => ?_⟩
        show accF c.toNat (fun _ => false) (c - n).toNat = true ↔ n ∈ [c]
        have n2' : n ≤ c := n2
        unfold accF
        by_cases e : n = c
        · subst e; rw [show (n - n).toNat = 0 by omega]; simp
        · rw [if_neg (by omega)]; simp [e]
      | some x =>
        cases hc : cntO rs t with
        | none => have := (h.none t).2 hc; rw [hm] at this; cases this
        | some cs =>
          have r := h.some t x cs hm hc
          have hx1 := r.rng _ r.mem
          unfold usedM at hu
          rw [hm] at hu
          have hu' : usedB x.1 x.2 c win = false := hu
          unfold usedB at hu'
          show HRel (newH x c) (cs ++ [c])
          unfold newH
          by_cases k : c ≤ x.1
          · rw [if_neg (by omega)] at hu'
            have k2 : ¬ c < x.1 - win := fun e => by rw [if_pos e] at hu'; cases hu'
            rw [if_pos k]
            refine ⟨List.mem_append_left _ r.mem, fun y hy => ?_, fun y hy => ?_, fun n n1 n2 => ?_⟩
            · rcases List.mem_append.1 hy with hy | hy
              · exact r.rng y hy
              · simp at hy; omega
            · rcases List.mem_append.1 hy with hy | hy
              · exact r.le y hy
              · simp at hy; show y ≤ x.1; omega
            · have n1' : x.1 - 63 ≤ n := n1
              have n2' : n ≤ x.1 := n2
              show (if (x.1 - n).toNat = (x.1 - c).toNat then true else x.2 (x.1 - n).toNat) = true ↔ n ∈ cs ++ [c]
              rw [List.mem_append, List.mem_singleton]
              by_cases e : n = c
              · rw [if_pos (by rw [e])]; exact ⟨fun _ => .inr e, fun _ => rfl⟩
              · rw [if_neg (by omega), r.acc n n1' n2']
                exact ⟨fun q => .inl q, fun q => q.resolve_right e⟩
          · rw [if_neg k]
            refine ⟨List.mem_append_right _ (by simp), fun y hy => ?_, fun y hy => ?_, fun n n1 n2 => ?_⟩
            · rcases List.mem_append.1 hy with hy | hy
              · exact r.rng y hy
              · simp at hy; omega
            · rcases List.mem_append.1 hy with hy | hy
              · have := r.le y hy; show y ≤ c; omega
              · simp at hy; show y ≤ c; omega
            · have n1' : c - 63 ≤ n := n1
              have n2' : n ≤ c := n2
              show accF (c - x.1).toNat x.2 (c - n).toNat = true ↔ n ∈ cs ++ [c]
              rw [List.mem_append, List.mem_singleton]
              unfold accF
              by_cases e : n = c
              · subst e; rw [show (n - n).toNat = 0 by omega]; simp
              · rw [if_neg (by omega), Bool.and_eq_true, decide_eq_true_eq]
                by_cases k3 : n ≤ x.1
                · rw [show (c - n).toNat - (c - x.1).toNat = (x.1 - n).toNat by omega, r.acc n (by omega) k3]
                  exact ⟨fun q => .inl q.2, fun q => ⟨by omega, q.resolve_right e⟩⟩
                · constructor
                  · intro q; omega
                  · rintro (q | q)
                    · have := r.le n q; omega
                    · exact absurd q e
    · rw [if_neg q] at e1 e2
      exact h.some y h' cs' e1 e2
end Go.Proofs.YtodlholfhgicoaaDoor
