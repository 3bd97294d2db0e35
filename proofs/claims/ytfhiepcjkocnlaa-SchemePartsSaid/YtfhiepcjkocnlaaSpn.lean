/- What a range over the spans adds up to. No walk. -/
import Derived.Test.YtfhiepcjkocnlaaLaw
namespace Go.Proofs.Ytfhiepcjkocnlaa
set_option linter.unusedVariables false
open Go.RowKit

/-- What has come when k rounds are over. -/
def upto {α : Type} (f : Nat → α) (k : Nat) : List α := (List.range k).map f
theorem upto_succ {α : Type} (f : Nat → α) (k : Nat) : upto f (k + 1) = upto f k ++ [f k] := by simp [upto, List.range_succ]
theorem upto_length {α : Type} (f : Nat → α) (k : Nat) : (upto f k).length = k := by simp [upto]
/-- The j-th pair: how many records tier j has, and its price. -/
def spanF (l : List Tr) (c : Int) (j : Nat) : Int × Int := (lastT c (l.drop (j + 1)) - (l.getD j default).f + 1, (l.getD j default).p)
def sumW (pre : List (Int × Int)) : Int := pre.foldl (fun s x => wrap64 (s + wrap64 (x.1 * x.2))) 0
def lastP (pre : List (Int × Int)) : Int := pre.foldl (fun _ x => x.2) 0
theorem sumW_snoc (pre : List (Int × Int)) (x : Int × Int) : sumW (pre ++ [x]) = wrap64 (sumW pre + wrap64 (x.1 * x.2)) := by simp [sumW]
theorem lastP_snoc (pre : List (Int × Int)) (x : Int × Int) : lastP (pre ++ [x]) = x.2 := by simp [lastP]
/-- The tiers that are reached are the first k. -/
structure SpanEnd (l : List Tr) (c : Int) (k : Nat) : Prop where
  le : k ≤ l.length
  low : ∀ j, j < k → (l.getD j default).f ≤ c
  stop : k < l.length → c < (l.getD k default).f
theorem last_upto (l : List Tr) (c : Int) : ∀ k, k ≤ l.length → (∀ j, j < k → (l.getD j default).f ≤ c) → margL l c 0 = margL (l.drop k) c (lastP (upto (spanF l c) k))
  | 0, _, _ => rfl
  | k + 1, h, hl => by
    rw [last_upto l c k (by omega) (fun j hj => hl j (by omega)), marg_step l c _ k (by omega) (hl k (by omega)), upto_succ, lastP_snoc]
    rfl
theorem last_spans {l : List Tr} {c : Int} {k : Nat} (h : SpanEnd l c k) : lastP (upto (spanF l c) k) = margL l c 0 := by
  rw [last_upto l c k h.le h.low]
  rcases Nat.lt_or_ge k l.length with q | q
  · rw [marg_stop l c _ k q (by have := h.stop q; omega)]
  · rw [List.drop_eq_nil_of_le q]; rfl
theorem sum_upto {l : List Tr} (hok : okT l) {c : Int} (h0 : 0 ≤ c) (h1 : c ≤ 1000000000) : ∀ k, k ≤ l.length → (∀ j, j < k → (l.getD j default).f ≤ c) → ∃ r, FeeAt l c k (sumW (upto (spanF l c) k)) r
  | 0, _, _ => ⟨0, feeAt_start hok c h0⟩
  | k + 1, h, hl => by
    obtain ⟨r, hF⟩ := sum_upto hok h0 h1 k (by omega) (fun j hj => hl j (by omega))
    obtain ⟨g1, g2, g3⟩ := feeAt_next hok hF (by omega) (hl k (by omega)) h1
    refine ⟨lastT c (l.drop (k + 1)), ?_⟩
    rw [upto_succ, sumW_snoc]
    have hs := hF.hi
    have hs0 := hF.lo
    have hr := hF.rc
    have hn := hF.nx (by omega)
    generalize sumW (upto (spanF l c) k) = s at *
    show FeeAt l c (k + 1) (wrap64 (s + wrap64 ((lastT c (l.drop (k + 1)) - (l.getD k default).f + 1) * (l.getD k default).p))) _
    rw [IntWalk.wrap64_in ((lastT c (l.drop (k + 1)) - (l.getD k default).f + 1) * (l.getD k default).p) (by omega), IntWalk.wrap64_in _ (by omega)]
    exact g3
theorem sum_spans {l : List Tr} (hok : okT l) {c : Int} (h0 : 0 ≤ c) (h1 : c ≤ 1000000000) {k : Nat} (h : SpanEnd l c k) :
    sumW (upto (spanF l c) k) = feeS l c 0 ∧ 0 ≤ feeS l c 0 ∧ feeS l c 0 ≤ 1000000000000000000 := by
  obtain ⟨r, hF⟩ := sum_upto hok h0 h1 k h.le h.low
  have e : feeS (l.drop k) c (sumW (upto (spanF l c) k)) = sumW (upto (spanF l c) k) := by
    rcases Nat.lt_or_ge k l.length with q | q
    · rw [fee_stop l c _ k q (by have := h.stop q; omega)]
    · rw [List.drop_eq_nil_of_le q]; rfl
  have := hF.fee
  rw [e] at this
  have h2 := hF.lo; have h3 := hF.hi; have h4 := hF.rc
  exact ⟨this.symm, by omega, by omega⟩
/-- There is such a k. -/
theorem span_end (l : List Tr) (c : Int) : ∀ m, m ≤ l.length → (∃ k, k ≤ m ∧ (∀ j, j < k → (l.getD j default).f ≤ c) ∧ k < l.length ∧ c < (l.getD k default).f) ∨ (∀ j, j < m → (l.getD j default).f ≤ c)
  | 0, _ => .inr (fun j h => by omega)
  | m + 1, h => by
    rcases span_end l c m (by omega) with ⟨k, h1, h2, h3, h4⟩ | h1
    · exact .inl ⟨k, by omega, h2, h3, h4⟩
    · by_cases hm : (l.getD m default).f ≤ c
      · exact .inr (fun j hj => by
          rcases Nat.lt_or_ge j m with q | q
          · exact h1 j q
          · obtain rfl : j = m := by omega
            exact hm)
      · exact .inl ⟨m, by omega, h1, by omega, by omega⟩
/-- No tier begins beyond 64 bits. -/
def upT (l : List Tr) : Prop := ∀ k, (l.getD k default).f ≤ 9223372036854775807
theorem okT_of_chk {l : List Tr} (h : chkE l = 0) : okT l := by
  unfold chkE at h
  split at h
  · omega
  split at h
  · omega
  split at h
  · assumption
  · omega
/-- What Fee answers when the sum is known. -/
theorem fee_val {l : List Tr} {n s : Int} (hz : chkE l = 0) (q1 : 0 ≤ n) (q2 : n ≤ 1000000000) (hs : feeS l n 0 = s) (h0 : 0 ≤ s) :
    (4503599627370496 < (s + 50) / 100 → feeE l n = 4 ∧ feeV l n = 0) ∧ ((s + 50) / 100 ≤ 4503599627370496 → feeE l n = 0 ∧ feeV l n = (s + 50) / 100) := by
  have hR : feeR l n = (s + 50) / 100 := by unfold feeR; rw [hs, Int.tdiv_eq_ediv_of_nonneg (by omega)]
  have hn : ¬ (n < 0 ∨ 1000000000 < n) := by omega
  constructor
  · intro h
    have hE : feeE l n = 4 := by unfold feeE; rw [if_pos hz, if_neg hn, hR, if_pos h]
    exact ⟨hE, by unfold feeV; rw [hE, if_neg (by omega)]⟩
  · intro h
    have hE : feeE l n = 0 := by unfold feeE; rw [if_pos hz, if_neg hn, hR, if_neg (by omega)]
    exact ⟨hE, by unfold feeV; rw [hE, if_pos rfl, hR]⟩
theorem fee_fin {l : List Tr} {n : Int} (hz : chkE l = 0) (q1 : 0 ≤ n) (q2 : n ≤ 1000000000) (k : Nat) (s r : Int) (hF : FeeAt l n k s r) (hk : k = l.length ∨ (k < l.length ∧ n < (l.getD k default).f)) :
    (0 ≤ s ∧ s ≤ 1000000000000000000) ∧ (4503599627370496 < (s + 50) / 100 → feeE l n = 4 ∧ feeV l n = 0) ∧ ((s + 50) / 100 ≤ 4503599627370496 → feeE l n = 0 ∧ feeV l n = (s + 50) / 100) := by
  have e : feeS (l.drop k) n s = s := by
    rcases hk with q | ⟨q, q'⟩
    · rw [q, List.drop_length]; rfl
    · rw [fee_stop l n s k q (by omega)]
  have h1 := hF.fee
  rw [e] at h1
  have h2 := hF.lo; have h3 := hF.hi; have h4 := hF.rc
  exact ⟨⟨h2, by omega⟩, fee_val hz q1 q2 h1 h2⟩
theorem margL_bd {l : List Tr} (h : ∀ x ∈ l, 0 ≤ x.p ∧ x.p ≤ 1000000000) (n p : Int) (hp : 0 ≤ p ∧ p ≤ 1000000000) : 0 ≤ margL l n p ∧ margL l n p ≤ 1000000000 := by
  induction l generalizing p with
  | nil => exact hp
  | cons x l ih =>
    rw [margL]
    split
    · exact ih (fun y hy => h y (by simp [hy])) _ (h x (by simp))
    · exact hp
theorem okT_price {l : List Tr} (h : okT l) : ∀ x ∈ l, 0 ≤ x.p ∧ x.p ≤ 1000000000 := by
  intro x hx
  obtain ⟨i, hi, rfl⟩ := List.mem_iff_getElem.1 hx
  have := (h i hi).2.2
  rwa [getD_at l i hi] at this
theorem fee_succ {l : List Tr} (h : okT l) (h0 : l ≠ []) (k : Nat) : feeS l ((k : Int) + 1) 0 = feeS l k 0 + margL l ((k : Int) + 1) 0 :=
  fee_next l (okT_asc h) k 0 0 (fun x hx => by
    cases l with
    | nil => exact absurd rfl h0
    | cons y l =>
      simp at hx; subst hx
      have := (h 0 (by simp)).1 rfl
      simp at this; omega) h0
theorem fee_zero {l : List Tr} (h : okT l) : feeS l 0 0 = 0 := by
  refine feeS_low l 0 0 (fun x hx => ?_)
  cases l with
  | nil => simp at hx
  | cons y l =>
    simp at hx; subst hx
    have := (h 0 (by simp)).1 rfl
    simp at this; omega
theorem feeS_bd {l : List Tr} (h : okT l) (h0 : l ≠ []) : ∀ k : Nat, 0 ≤ feeS l k 0 ∧ feeS l k 0 ≤ 1000000000 * (k : Int)
  | 0 => by rw [show ((0 : Nat) : Int) = 0 from rfl, fee_zero h]; omega
  | k + 1 => by
    have ih := feeS_bd h h0 k
    have hm := margL_bd (okT_price h) ((k : Int) + 1) 0 (by omega)
    rw [show (((k + 1 : Nat)) : Int) = (k : Int) + 1 by omega, fee_succ h h0 k]; omega
end Go.Proofs.Ytfhiepcjkocnlaa
