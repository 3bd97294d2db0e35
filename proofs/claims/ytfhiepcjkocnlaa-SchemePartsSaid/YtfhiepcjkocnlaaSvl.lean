/- What more records cost, and what joining them saves. No walk. -/
import Derived.Test.YtfhiepcjkocnlaaFew
namespace Go.Proofs.Ytfhiepcjkocnlaa
set_option linter.unusedVariables false
open Go.RowKit

theorem fee_mono {t : List Tr} (h : okT t) (h0 : t ≠ []) (a : Nat) : ∀ d : Nat, feeS t a 0 ≤ feeS t ((a + d : Nat) : Int) 0
  | 0 => by rw [Nat.add_zero]; exact Int.le_refl _
  | d + 1 => by
    have ih := fee_mono h h0 a d
    have hs := fee_succ h h0 (a + d)
    have hm := margL_bd (okT_price h) (((a + d : Nat) : Int) + 1) 0 (by omega)
    rw [show ((a + (d + 1) : Nat) : Int) = ((a + d : Nat) : Int) + 1 by omega, hs]; omega
theorem fee_le {t : List Tr} (h : chkE t = 0) {a b : Int} (h0 : 0 ≤ a) (hab : a ≤ b) : feeS t a 0 ≤ feeS t b 0 := by
  obtain ⟨n, rfl⟩ := Int.eq_ofNat_of_zero_le h0
  obtain ⟨m, rfl⟩ := Int.eq_ofNat_of_zero_le (show 0 ≤ b by omega)
  have := fee_mono (okT_of_chk h) (by intro e; rw [e] at h; exact absurd h (by decide)) n (m - n)
  rwa [show n + (m - n) = m by omega] at this
/-- The prices do not ascend. -/
def desT : List Tr → Prop
  | [] => True
  | [_] => True
  | x :: y :: l => y.p ≤ x.p ∧ desT (y :: l)
theorem des_of (l : List Tr) (h : ∀ i, 0 < i → i < l.length → (l.getD i default).p ≤ (l.getD (i - 1) default).p) : desT l := by
  induction l with
  | nil => trivial
  | cons x l ih =>
    cases l with
    | nil => trivial
    | cons y l =>
      refine ⟨h 1 (by omega) (by simp), ih (fun i hi hl => ?_)⟩
      have := h (i + 1) (by omega) (by simp at hl ⊢; omega)
      cases i with
      | zero => omega
      | succ i => exact this
theorem des_head {x : Tr} {l : List Tr} (h : desT (x :: l)) : ∀ y ∈ l, y.p ≤ x.p := by
  induction l generalizing x with
  | nil => simp
  | cons y l ih =>
    obtain ⟨h1, h2⟩ := h
    intro z hz
    rcases List.mem_cons.1 hz with rfl | hz
    · exact h1
    · exact Int.le_trans (ih h2 z hz) h1
theorem des_tail {x : Tr} {l : List Tr} (h : desT (x :: l)) : desT l := by
  cases l with
  | nil => trivial
  | cons y l => exact h.2
theorem marg_le {l : List Tr} (n p : Int) (h : ∀ y ∈ l, y.p ≤ p) (hd : desT l) : margL l n p ≤ p := by
  induction l generalizing p with
  | nil => exact Int.le_refl _
  | cons x l ih =>
    rw [margL]
    split
    · exact Int.le_trans (ih x.p (des_head hd) (des_tail hd)) (h x (by simp))
    · exact Int.le_refl _
theorem marg_anti {l : List Tr} (hd : desT l) {n m : Int} (hnm : n ≤ m) (p : Int) (h : ∀ y ∈ l, y.p ≤ p) : margL l m p ≤ margL l n p := by
  induction l generalizing p with
  | nil => exact Int.le_refl _
  | cons x l ih =>
    by_cases h1 : x.f ≤ n
    · rw [margL, margL, if_pos h1, if_pos (by omega)]
      exact ih (des_tail hd) x.p (des_head hd)
    · have : margL (x :: l) n p = p := by rw [margL, if_neg h1]
      rw [this]
      exact marg_le m p h hd
theorem marg_anti0 {t : List Tr} (h : okT t) (h0 : t ≠ []) (hd : desT t) {n m : Int} (h1 : 1 ≤ n) (hnm : n ≤ m) : margL t m 0 ≤ margL t n 0 := by
  cases t with
  | nil => exact absurd rfl h0
  | cons x l =>
    have hx : x.f = 1 := by have := (h 0 (by simp)).1 rfl; simpa using this
    rw [margL, margL, if_pos (by omega), if_pos (by omega)]
    exact marg_anti (des_tail hd) hnm x.p (des_head hd)
theorem fee_sub {t : List Tr} (h : okT t) (h0 : t ≠ []) (hd : desT t) (a : Nat) : ∀ b : Nat, feeS t ((a + b : Nat) : Int) 0 ≤ feeS t a 0 + feeS t b 0
  | 0 => by rw [Nat.add_zero, show ((0 : Nat) : Int) = 0 from rfl, fee_zero h]; omega
  | b + 1 => by
    have ih := fee_sub h h0 hd a b
    have e1 := fee_succ h h0 (a + b)
    have e2 := fee_succ h h0 b
    have hm := marg_anti0 h h0 hd (n := (b : Int) + 1) (m := ((a + b : Nat) : Int) + 1) (by omega) (by omega)
    rw [show ((a + (b + 1) : Nat) : Int) = ((a + b : Nat) : Int) + 1 by omega, e1, show ((b + 1 : Nat) : Int) = (b : Int) + 1 by omega, e2]; omega
/-- The separate fees of the first k parties. -/
def sepF (t : List Tr) (v : List Vol) : Nat → Int
  | 0 => 0
  | k + 1 => sepF t v k + feeV t (v.getD k default).c
structure Sep (t : List Tr) (v : List Vol) : Prop where
  one : ∀ i, i < v.length → feeE t (v.getD i default).c = 0 ∧ 0 ≤ feeV t (v.getD i default).c ∧ feeV t (v.getD i default).c ≤ 4503599627370496
  bd : ∀ k, k ≤ v.length → 0 ≤ sepF t v k ∧ sepF t v k ≤ 4503599627370496 * k
theorem count_le {v : List Vol} (h : ∀ j, j < v.length → badV v j = 0) : ∀ k, k ≤ v.length → ∀ i, i < k → 0 ≤ (v.getD i default).c ∧ (v.getD i default).c ≤ sumC v k
  | 0, _, i, hi => by omega
  | k + 1, hk, i, hi => by
    have hs := sumC_bd k (fun j hj => h j (by omega))
    have hb := badV_ok (h k (by omega))
    rw [sumC]
    rcases Nat.lt_or_ge i k with q | q
    · have := count_le h k (by omega) i q; omega
    · obtain rfl : i = k := by omega
      omega
theorem fee_ok_le {t : List Tr} (hc : chkE t = 0) {a b : Int} (h0 : 0 ≤ a) (hab : a ≤ b) (hb : feeE t b = 0) : feeE t a = 0 ∧ 0 ≤ feeV t a ∧ feeV t a ≤ feeV t b ∧ feeV t a = (feeS t a 0 + 50) / 100 ∧ feeV t b = (feeS t b 0 + 50) / 100 ∧ feeV t b ≤ 4503599627370496 := by
  have hb9 : b ≤ 1000000000 := by
    unfold feeE at hb; rw [if_pos hc] at hb
    split at hb <;> omega
  have hle := fee_le hc h0 hab
  have hok := okT_of_chk hc
  have hz : 0 ≤ feeS t a 0 := by
    obtain ⟨n, rfl⟩ := Int.eq_ofNat_of_zero_le h0
    exact (feeS_bd hok (by intro e; rw [e] at hc; exact absurd hc (by decide)) n).1
  have hvb := fee_val hc (show 0 ≤ b by omega) hb9 rfl (show 0 ≤ feeS t b 0 by omega)
  have hva := fee_val hc h0 (by omega) rfl hz
  have hbm : (feeS t b 0 + 50) / 100 ≤ 4503599627370496 := by
    rcases Int.lt_or_le 4503599627370496 ((feeS t b 0 + 50) / 100) with q | q
    · have := (hvb.1 q).1; omega
    · exact q
  have h2 := hvb.2 hbm
  have h3 := hva.2 (by omega)
  refine ⟨h3.1, by rw [h3.2]; omega, by rw [h3.2, h2.2]; omega, h3.2, h2.2, by rw [h2.2]; exact hbm⟩
theorem sep_of {t : List Tr} {v : List Vol} (h : wholeE t v = 0) : Sep t v := by
  have hw := whole_ok h
  have h1 : ∀ i, i < v.length → feeE t (v.getD i default).c = 0 ∧ 0 ≤ feeV t (v.getD i default).c ∧ feeV t (v.getD i default).c ≤ 4503599627370496 := fun i hi => by
    have hc := count_le hw.all v.length (Nat.le_refl _) i hi
    have := fee_ok_le hw.chk hc.1 hc.2 hw.fee
    exact ⟨this.1, this.2.1, by omega⟩
  refine ⟨h1, fun k => ?_⟩
  induction k with
  | zero => intro _; simp [sepF]
  | succ k ih =>
    intro hk
    have := ih (by omega)
    have := h1 k (by omega)
    rw [sepF]; omega
theorem sep_sub {t : List Tr} {v : List Vol} (h : wholeE t v = 0) (hd : desT t) : ∀ k, k ≤ v.length → feeS t (sumC v k) 0 - 49 * (k : Int) ≤ 100 * sepF t v k
  | 0, _ => by
    have hw := whole_ok h
    rw [show sumC v 0 = 0 from rfl, fee_zero (okT_of_chk hw.chk)]; simp [sepF]
  | k + 1, hk => by
    have hw := whole_ok h
    have hok := okT_of_chk hw.chk
    have hne : t ≠ [] := by intro e; have := hw.chk; rw [e] at this; exact absurd this (by decide)
    have ih := sep_sub h hd k (by omega)
    have hs := (sumC_bd k (fun j hj => hw.all j (by omega))).1
    have hc := count_le hw.all v.length (Nat.le_refl _) k (by omega)
    have hf := (fee_ok_le hw.chk hc.1 hc.2 hw.fee).2.2.2.1
    obtain ⟨a, ha⟩ := Int.eq_ofNat_of_zero_le hs
    obtain ⟨b, hb⟩ := Int.eq_ofNat_of_zero_le hc.1
    have hsub := fee_sub hok hne hd a b
    rw [sumC, sepF, hf, ha, hb]
    rw [ha] at ih
    rw [show ((a : Int) + (b : Int)) = ((a + b : Nat) : Int) by omega]
    omega
/-- Joining records costs at most a rounding for each party. -/
theorem saved_ge {t : List Tr} {v : List Vol} (h : wholeE t v = 0) (hd : desT t) : -(v.length : Int) ≤ sepF t v v.length - wholeV t v := by
  have hw := whole_ok h
  have hs := sep_sub h hd v.length (Nat.le_refl _)
  have hf := (fee_ok_le hw.chk hw.cnt.1 (Int.le_refl _) hw.fee).2.2.2.1
  rw [hw.val, hf]
  rcases Nat.eq_zero_or_pos v.length with e | e
  · have : sumC v v.length = 0 := by rw [e]; rfl
    rw [this, fee_zero (okT_of_chk hw.chk), e]; simp [sepF]
  · omega
end Go.Proofs.Ytfhiepcjkocnlaa
