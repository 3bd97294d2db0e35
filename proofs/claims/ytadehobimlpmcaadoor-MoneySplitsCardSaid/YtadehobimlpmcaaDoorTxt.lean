/- The texts of amounts, in plain Lean: the numeral with so many places, what a parser makes of it, and that each undoes the other. No walk. -/
import Derived.Lib.ItoaNum
namespace Go.Proofs.YtadehobimlpmcaaDoor
set_option linter.unusedVariables false
open Go

def digB (b : UInt8) : Bool := decide (48 ≤ b.toNat) && decide (b.toNat ≤ 57)
def valD (l : List UInt8) : Nat := l.foldl (fun n b => 10 * n + (b.toNat - 48)) 0
theorem valD_nil : valD [] = 0 := rfl
theorem valD_snoc (l : List UInt8) (b : UInt8) : valD (l ++ [b]) = 10 * valD l + (b.toNat - 48) := by unfold valD; rw [List.foldl_append]; rfl
theorem digB_of {d : Nat} (h : d < 10) : digB (UInt8.ofNat (48 + d)) = true := by
  unfold digB; simp [UInt8.toNat_ofNat, Nat.mod_eq_of_lt (show 48 + d < 256 by omega)]; omega
theorem toNat_of {d : Nat} (h : d < 10) : (UInt8.ofNat (48 + d)).toNat = 48 + d := by
  simp [UInt8.toNat_ofNat, Nat.mod_eq_of_lt (show 48 + d < 256 by omega)]
theorem of_toNat {b : UInt8} (h : digB b = true) : b.toNat - 48 < 10 ∧ UInt8.ofNat (48 + (b.toNat - 48)) = b ∧ 48 ≤ b.toNat := by
  unfold digB at h
  rw [Bool.and_eq_true, decide_eq_true_eq, decide_eq_true_eq] at h
  refine ⟨by omega, ?_, h.1⟩
  rw [show 48 + (b.toNat - 48) = b.toNat by omega]; simp
theorem dec_digits (u : Nat) : (Lib.decDigits u).all digB = true := by
  induction u using Nat.strongRecOn with
  | _ u ih =>
    rw [Lib.decDigits]
    split
    · rw [List.all_cons, digB_of (by omega)]; rfl
    · rw [List.all_append, ih (u / 10) (by omega), List.all_cons, digB_of (by omega)]; rfl
theorem dec_val (u : Nat) : valD (Lib.decDigits u) = u := by
  induction u using Nat.strongRecOn with
  | _ u ih =>
    rw [Lib.decDigits]
    split
    · rename_i h
      show 10 * 0 + ((UInt8.ofNat (48 + u)).toNat - 48) = u
      rw [toNat_of h]; omega
    · rw [valD_snoc, ih (u / 10) (by omega), toNat_of (by omega)]; omega
theorem dec_ne (u : Nat) : Lib.decDigits u ≠ [] := by
  intro h
  have := congrArg List.length h
  rw [Lib.decDigits_length] at this
  have := Lib.nDigits_pos u
  simp at *; omega
/-- No superfluous zero ahead. -/
theorem dec_first (u : Nat) (h : 0 < u) : (Lib.decDigits u).head? ≠ some 48 := by
  induction u using Nat.strongRecOn with
  | _ u ih =>
    rw [Lib.decDigits]
    split
    · rename_i h1
      simp only [List.head?_cons, ne_eq, Option.some.injEq]
      intro h2
      have := congrArg UInt8.toNat h2
      rw [toNat_of h1] at this
      have h48 : (48 : UInt8).toNat = 48 := rfl
      omega
    · rw [List.head?_append]
      have := ih (u / 10) (by omega) (by omega)
      cases hh : (Lib.decDigits (u / 10)).head? with
      | none => exact absurd (List.head?_eq_none_iff.1 hh) (dec_ne _)
      | some x => rw [hh] at this; simpa using this
theorem valD_zeros (k : Nat) (l : List UInt8) : valD (List.replicate k 48 ++ l) = valD l := by
  unfold valD
  rw [List.foldl_append]
  congr 1
  induction k with
  | zero => rfl
  | succ k ih => rw [List.replicate_succ, List.foldl_cons]; exact ih
theorem zeros_digits (k : Nat) : (List.replicate k (48 : UInt8)).all digB = true := by
  induction k with
  | zero => rfl
  | succ k ih => rw [List.replicate_succ, List.all_cons, ih]; rfl
/-- Digits are the numeral of what they denote, behind so many zeros. -/
theorem digits_form : ∀ (n : Nat) (d : List UInt8), d.length = n + 1 → d.all digB = true → Lib.nDigits (valD d) ≤ n + 1 ∧ d = List.replicate (n + 1 - Lib.nDigits (valD d)) 48 ++ Lib.decDigits (valD d)
  | 0, d, hn, hd => by
    match d, hn with
    | [b], _ =>
      rw [List.all_cons] at hd
      obtain ⟨h1, h2, h3⟩ := of_toNat (by simpa using hd : digB b = true)
      have hv : valD [b] = b.toNat - 48 := by show 10 * 0 + _ = _; omega
      rw [hv, Lib.nDigits_small h1, Lib.decDigits_one h1, h2]
      exact ⟨Nat.le_refl _, rfl⟩
  | n + 1, d, hn, hd => by
    obtain ⟨d', b, rfl⟩ : ∃ d' b, d = d' ++ [b] := by
      rcases List.eq_nil_or_concat d with h | ⟨l, b, h⟩
      · rw [h] at hn; simp at hn
      · exact ⟨l, b, by rw [h, List.concat_eq_append]⟩
    rw [List.all_append, Bool.and_eq_true] at hd
    have hb : digB b = true := by have := hd.2; simpa using this
    obtain ⟨h1, h2, h3⟩ := of_toNat hb
    have hl : d'.length = n + 1 := by simp at hn; omega
    obtain ⟨i1, i2⟩ := digits_form n d' hl hd.1
    rw [valD_snoc]
    generalize valD d' = v at *
    generalize b.toNat - 48 = x at *
    by_cases hv : v = 0
    · subst hv
      rw [Lib.nDigits_small (by omega : (0 : Nat) < 10), Lib.decDigits_one (by omega)] at i2
      rw [show 10 * 0 + x = x by omega, Lib.nDigits_small h1, Lib.decDigits_one h1, h2]
      refine ⟨by omega, ?_⟩
      rw [i2]
      have e : (n + 1 + 1 - 1) = (n + 1 - 1) + 1 := by omega
      rw [e, List.replicate_succ']
      rfl
    · have hb' : ¬ (10 * v + x < 10) := by omega
      have e1 : (10 * v + x) / 10 = v := by omega
      have e2 : (10 * v + x) % 10 = x := by omega
      rw [Lib.nDigits_big hb', e1]
      rw [Lib.decDigits, dif_neg hb', e1, e2, h2]
      refine ⟨by omega, ?_⟩
      rw [← List.append_assoc, show n + 1 + 1 - (Lib.nDigits v + 1) = n + 1 - Lib.nDigits v by omega, ← i2]
/-- The numeral with at least k + 1 digits. -/
def padD (k n : Nat) : List UInt8 := List.replicate (k + 1 - Lib.nDigits n) 48 ++ Lib.decDigits n
theorem padD_length (k n : Nat) : (padD k n).length = max (k + 1) (Lib.nDigits n) := by
  unfold padD; rw [List.length_append, List.length_replicate, Lib.decDigits_length]; omega
theorem padD_digits (k n : Nat) : (padD k n).all digB = true := by unfold padD; rw [List.all_append, zeros_digits, dec_digits]; rfl
theorem padD_val (k n : Nat) : valD (padD k n) = n := by unfold padD; rw [valD_zeros, dec_val]
theorem padD_head (k n : Nat) (h : k + 1 < (padD k n).length) : (padD k n).head? ≠ some 48 := by
  rw [padD_length] at h
  have h0 : k + 1 - Lib.nDigits n = 0 := by omega
  have hn : 0 < n := by
    rcases Nat.eq_zero_or_pos n with q | q
    · rw [q, Lib.nDigits_small (by omega)] at h; omega
    · exact q
  unfold padD
  rw [h0]
  exact dec_first n hn
theorem padD_of {k : Nat} {d : List UInt8} (hl : k + 1 ≤ d.length) (hd : d.all digB = true) (hh : k + 1 < d.length → d.head? ≠ some 48) : padD k (valD d) = d := by
  obtain ⟨n, hn⟩ : ∃ n, d.length = n + 1 := ⟨d.length - 1, by omega⟩
  obtain ⟨h1, h2⟩ := digits_form n d hn hd
  unfold padD
  by_cases hz : n + 1 - Lib.nDigits (valD d) = 0
  · rw [hz] at h2
    rw [show k + 1 - Lib.nDigits (valD d) = 0 by omega]
    exact h2.symm
  · have : ¬ (k + 1 < d.length) := by
      intro q
      apply hh q
      rw [h2]
      obtain ⟨z, hz'⟩ : ∃ z, n + 1 - Lib.nDigits (valD d) = z + 1 := ⟨_, (Nat.succ_pred_eq_of_ne_zero hz).symm⟩
      rw [hz', List.replicate_succ]; rfl
    rw [show k + 1 = n + 1 by omega]
    exact h2.symm
/-- The numeral with k places behind the point. -/
def bodyD (k n : Nat) : List UInt8 := if k = 0 then padD 0 n else (padD k n).take ((padD k n).length - k) ++ 46 :: (padD k n).drop ((padD k n).length - k)
/-- The digits of a text with k places, without its point. -/
def digsOf (s : List UInt8) (k : Nat) : Option (List UInt8) :=
  if k = 0 then (if s = [] ∨ (1 < s.length ∧ s.head? = some 48) ∨ s.all digB = false then none else some s)
  else if s.length < k + 1 then none
  else if s[s.length - k - 1]? ≠ some 46 then none
  else if s.take (s.length - k - 1) = [] ∨ (1 < (s.take (s.length - k - 1)).length ∧ (s.take (s.length - k - 1)).head? = some 48) ∨ (s.take (s.length - k - 1) ++ s.drop (s.length - k)).all digB = false then none
  else some (s.take (s.length - k - 1) ++ s.drop (s.length - k))
theorem head_take {l : List UInt8} {n : Nat} (h : 0 < n) : (l.take n).head? = l.head? := by
  cases l with
  | nil => simp
  | cons a l => cases n with
    | zero => omega
    | succ n => rfl
theorem digs_body (k n : Nat) : digsOf (bodyD k n) k = some (padD k n) := by
  have hl := padD_length k n
  have hd := padD_digits k n
  have hh := padD_head k n
  have hnp := Lib.nDigits_pos n
  unfold digsOf bodyD
  by_cases hk : k = 0
  · subst hk
    rw [if_pos rfl, if_pos rfl, if_neg]
    rintro (h | ⟨h1, h2⟩ | h)
    · rw [h] at hl; simp at hl; omega
    · exact hh (by omega) h2
    · rw [h] at hd; cases hd
  · rw [if_neg hk, if_neg hk]
    generalize padD k n = D at *
    have e1 : (D.take (D.length - k) ++ 46 :: D.drop (D.length - k)).length = D.length + 1 := by simp; omega
    have e2 : (D.take (D.length - k)).length = D.length - k := by simp
    rw [e1, if_neg (by omega), show D.length + 1 - k - 1 = D.length - k by omega, if_neg, if_neg]
    · rw [List.take_append_of_le_length (by omega), List.take_of_length_le (by omega), List.drop_append, List.drop_of_length_le (by omega), e2, show D.length + 1 - k - (D.length - k) = 1 by omega]
      simp
    · rw [List.take_append_of_le_length (by omega), List.take_of_length_le (by omega), List.drop_append, List.drop_of_length_le (by omega), e2, show D.length + 1 - k - (D.length - k) = 1 by omega]
      rintro (h | ⟨h1, h2⟩ | h)
      · rw [h] at e2; simp at e2; omega
      · rw [head_take (by omega)] at h2; exact hh (by omega) h2
      · simp only [List.nil_append, List.drop_one, List.tail_cons, List.take_append_drop] at h
        rw [h] at hd; cases hd
    · rw [List.getElem?_append_right (by omega), e2, Nat.sub_self]; simp
theorem body_digs {s : List UInt8} {k : Nat} {d : List UInt8} (h : digsOf s k = some d) : bodyD k (valD d) = s ∧ d.all digB = true ∧ k + 1 ≤ d.length := by
  unfold digsOf at h
  by_cases hk : k = 0
  · subst hk
    rw [if_pos rfl] at h
    split at h
    · cases h
    · rename_i hn
      injection h with h
      subst h
      simp only [not_or] at hn
      obtain ⟨h1, h2, h3⟩ := hn
      have hd : s.all digB = true := by cases hc : s.all digB <;> simp_all
      have hl : 0 + 1 ≤ s.length := by cases s with | nil => exact absurd rfl h1 | cons a l => simp
      refine ⟨?_, hd, hl⟩
      unfold bodyD
      rw [if_pos rfl]
      exact padD_of hl hd (fun q e => h2 ⟨q, e⟩)
  · rw [if_neg hk] at h
    split at h
    · cases h
    · rename_i hlen
      split at h
      · cases h
      · rename_i hpt
        split at h
        · cases h
        · rename_i hn
          injection h with h
          simp only [not_or] at hn
          obtain ⟨h1, h2, h3⟩ := hn
          rw [h] at h3
          have hd : d.all digB = true := by cases hc : d.all digB <;> simp_all
          have hu : (s.take (s.length - k - 1)).length = s.length - k - 1 := by simp; omega
          have hu0 : 0 < s.length - k - 1 := by
            rcases Nat.eq_zero_or_pos (s.length - k - 1) with q | q
            · rw [q] at h1; exact absurd (List.take_zero) h1
            · exact q
          have hdl : d.length = s.length - 1 := by rw [← h]; simp; omega
          have hl : k + 1 ≤ d.length := by omega
          have hp := padD_of hl hd (fun q e => h2 ⟨by omega, by
            rw [← h] at e
            rw [List.head?_append] at e
            cases hh : (s.take (s.length - k - 1)).head? with
            | none => exact absurd (List.head?_eq_none_iff.1 hh) h1
            | some x => rw [hh] at e; simpa using e⟩)
          refine ⟨?_, hd, hl⟩
          unfold bodyD
          rw [if_neg hk, hp, hdl, show s.length - 1 - k = s.length - k - 1 by omega, ← h, List.take_append_of_le_length (by omega), List.take_of_length_le (by omega), List.drop_append, List.drop_of_length_le (by omega), hu, Nat.sub_self, List.drop_zero, List.nil_append]
          have hpt' : s[s.length - k - 1]? = some 46 := by
            cases hc : decide (s[s.length - k - 1]? = some 46) with
            | true => exact of_decide_eq_true hc
            | false => exact absurd (of_decide_eq_false hc) hpt
          have hdrop : s.drop (s.length - k - 1) = 46 :: s.drop (s.length - k) := by
            rw [List.drop_eq_getElem_cons (by omega)]
            have : s[s.length - k - 1] = 46 := by
              rw [List.getElem?_eq_getElem (by omega)] at hpt'
              exact Option.some.inj hpt'
            rw [this, show s.length - k - 1 + 1 = s.length - k by omega]
          rw [← hdrop, List.take_append_drop]
def capL (b : UInt8) : Bool := decide (65 ≤ b.toNat) && decide (b.toNat ≤ 90)
def curL (c : List UInt8) : Bool := decide (c.length = 3) && c.all capL
theorem curL_length {c : List UInt8} (h : curL c = true) : c.length = 3 := by unfold curL at h; rw [Bool.and_eq_true, decide_eq_true_eq] at h; exact h.1
/-- The currencies without places, and those with three. -/
def noPl : List (List UInt8) := [[74, 80, 89], [75, 82, 87], [86, 78, 68], [67, 76, 80], [73, 83, 75]]
def thPl : List (List UInt8) := [[66, 72, 68], [75, 87, 68], [74, 79, 68], [79, 77, 82], [84, 78, 68]]
def expN (c : List UInt8) : Nat := if c ∈ noPl then 0 else if c ∈ thPl then 3 else 2
def inTp (n : Int) : Bool := decide (-4503599627370496 ≤ n) && decide (n ≤ 4503599627370496)
def fmtL (a : Int) (c : List UInt8) : List UInt8 := (if a < 0 then [45] else []) ++ bodyD (expN c) a.natAbs ++ 32 :: c
def totL (n : Int) (c : List UInt8) : Int × List UInt8 × Int := if inTp n = true then (n, c, 0) else (0, [], 4)
def numOf (s : List UInt8) : List UInt8 := if (s.take (s.length - 4)).head? = some 45 then (s.take (s.length - 4)).drop 1 else s.take (s.length - 4)
def parD (s : List UInt8) (d : List UInt8) : Int × List UInt8 × Int :=
  if (s.take (s.length - 4)).head? = some 45 then
    (if min (valD d) 4503599627370497 = 0 then (0, [], 2) else totL (-(min (valD d) 4503599627370497 : Nat)) (s.drop (s.length - 3)))
  else totL (min (valD d) 4503599627370497 : Nat) (s.drop (s.length - 3))
def parR (s : List UInt8) : Int × List UInt8 × Int :=
  if s = [] then (0, [], 1)
  else if s.length < 4 then (0, [], 2)
  else if s[s.length - 4]? ≠ some 32 then (0, [], 2)
  else if curL (s.drop (s.length - 3)) = false then (0, [], 2)
  else match digsOf (numOf s) (expN (s.drop (s.length - 3))) with
    | none => (0, [], 2)
    | some d => parD s d
theorem inTp_iff (n : Int) : inTp n = true ↔ -4503599627370496 ≤ n ∧ n ≤ 4503599627370496 := by unfold inTp; rw [Bool.and_eq_true, decide_eq_true_eq, decide_eq_true_eq]
theorem body_digit (k n : Nat) : ∃ b, (bodyD k n).head? = some b ∧ digB b = true := by
  have hl := padD_length k n
  have hd := padD_digits k n
  have hn := Lib.nDigits_pos n
  unfold bodyD
  split
  · rename_i h0
    subst h0
    generalize padD 0 n = D at *
    cases D with
    | nil => simp at hl; omega
    | cons a l => exact ⟨a, rfl, by rw [List.all_cons, Bool.and_eq_true] at hd; exact hd.1⟩
  · generalize padD k n = D at *
    cases D with
    | nil => simp at hl; omega
    | cons a l =>
      refine ⟨a, ?_, by rw [List.all_cons, Bool.and_eq_true] at hd; exact hd.1⟩
      rw [List.head?_append, head_take (by omega)]; rfl
theorem parse_fmt (a : Int) (c : List UInt8) (hc : curL c = true) (ha : inTp a = true) : parR (fmtL a c) = (a, c, 0) := by
  have hc3 := curL_length hc
  have ha' := (inTp_iff a).1 ha
  obtain ⟨b, hb, hbd⟩ := body_digit (expN c) a.natAbs
  have hb45 : b ≠ 45 := by rintro rfl; revert hbd; decide
  have hdg := digs_body (expN c) a.natAbs
  have hv := padD_val (expN c) a.natAbs
  have hsn : valD (padD (expN c) a.natAbs) ≤ 4503599627370496 := by rw [hv]; omega
  obtain ⟨N, hN⟩ : ∃ N, (if a < 0 then [45] else []) ++ bodyD (expN c) a.natAbs = N := ⟨_, rfl⟩
  have hf : fmtL a c = N ++ 32 :: c := by unfold fmtL; rw [hN]
  rw [hf]
  have hlen : (N ++ 32 :: c).length = N.length + 4 := by simp; omega
  have htk : (N ++ 32 :: c).take N.length = N := by rw [List.take_append_of_le_length (Nat.le_refl _), List.take_length]
  have hdr : (N ++ 32 :: c).drop (N.length + 1) = c := by rw [List.drop_append, List.drop_of_length_le (by omega), show N.length + 1 - N.length = 1 by omega]; rfl
  unfold parR parD numOf
  rw [hlen, show N.length + 4 - 4 = N.length by omega, show N.length + 4 - 3 = N.length + 1 by omega, htk, hdr]
  rw [if_neg (by intro h; rw [h] at hlen; simp at hlen), if_neg (by omega), if_neg, if_neg (by rw [hc]; simp)]
  · by_cases hn : a < 0
    · rw [if_pos hn] at hN
      have hh : N.head? = some 45 := by rw [← hN]; rfl
      rw [if_pos hh]
      simp only [if_pos hh]
      rw [← hN, List.cons_append, List.drop_one, List.tail_cons, List.nil_append, hdg]
      simp only
      rw [hv, if_neg (by omega), show min a.natAbs 4503599627370497 = a.natAbs by omega, show (-(a.natAbs : Int)) = a by omega]
      unfold totL; rw [if_pos ha]
    · rw [if_neg hn, List.nil_append] at hN
      have hh : ¬ N.head? = some 45 := by rw [← hN, hb]; simpa using hb45
      rw [if_neg hh]
      simp only [if_neg hh]
      rw [← hN, hdg]
      simp only
      rw [hv, show min a.natAbs 4503599627370497 = a.natAbs by omega, show (a.natAbs : Int) = a by omega]
      unfold totL; rw [if_pos ha]
  · rw [List.getElem?_append_right (Nat.le_refl _), Nat.sub_self]; simp
structure GoodR (s : List UInt8) (r : Int × List UInt8 × Int) : Prop where
  ok : r.2.2 = 0 → curL r.2.1 = true ∧ inTp r.1 = true ∧ fmtL r.1 r.2.1 = s
  bad : r.2.2 ≠ 0 → r.1 = 0 ∧ r.2.1 = []
theorem GoodR.err (s : List UInt8) (e : Int) (h : e ≠ 0) : GoodR s (0, [], e) := ⟨fun q => absurd q h, fun _ => ⟨rfl, rfl⟩⟩
theorem GoodR.tot {s : List UInt8} {n : Int} {c : List UInt8} (h : inTp n = true → curL c = true ∧ fmtL n c = s) : GoodR s (totL n c) := by
  unfold totL
  split
  · rename_i hi; exact ⟨fun _ => ⟨(h hi).1, hi, (h hi).2⟩, fun q => absurd rfl q⟩
  · exact GoodR.err s 4 (by decide)
theorem fmt_parse (s : List UInt8) : GoodR s (parR s) := by
  unfold parR
  split
  · exact GoodR.err s _ (by decide)
  · split
    · exact GoodR.err s _ (by decide)
    · rename_i hl4
      split
      · exact GoodR.err s _ (by decide)
      · rename_i hsp
        split
        · exact GoodR.err s _ (by decide)
        · rename_i hcu
          have hcu' : curL (s.drop (s.length - 3)) = true := by cases hc : curL (s.drop (s.length - 3)) <;> simp_all
          cases hd : digsOf (numOf s) (expN (s.drop (s.length - 3))) with
          | none => exact GoodR.err s _ (by decide)
          | some d =>
            simp only
            obtain ⟨hb, hdd, hdl⟩ := body_digs hd
            have hspl : s.take (s.length - 4) ++ 32 :: s.drop (s.length - 3) = s := by
              have hsp' : s[s.length - 4]? = some 32 := by
                cases hc : decide (s[s.length - 4]? = some 32) with
                | true => exact of_decide_eq_true hc
                | false => exact absurd (of_decide_eq_false hc) hsp
              have : 32 :: s.drop (s.length - 3) = s.drop (s.length - 4) := by
                rw [List.drop_eq_getElem_cons (show s.length - 4 < s.length by omega), show s.length - 4 + 1 = s.length - 3 by omega]
                rw [List.getElem?_eq_getElem (by omega)] at hsp'
                rw [Option.some.inj hsp']
              rw [this, List.take_append_drop]
            unfold parD
            generalize s.drop (s.length - 3) = c at *
            by_cases hneg : (s.take (s.length - 4)).head? = some 45
            · rw [if_pos hneg]
              have hnum : s.take (s.length - 4) = 45 :: numOf s := by
                unfold numOf
                rw [if_pos hneg]
                cases ht : s.take (s.length - 4) with
                | nil => rw [ht] at hneg; cases hneg
                | cons x l => rw [ht] at hneg; injection hneg with hneg; rw [hneg]; rfl
              split
              · exact GoodR.err s _ (by decide)
              · rename_i hnz
                refine GoodR.tot fun hi => ⟨hcu', ?_⟩
                have hi' := (inTp_iff _).1 hi
                have hm : min (valD d) 4503599627370497 = valD d := by omega
                rw [hm] at hnz ⊢
                unfold fmtL
                rw [if_pos (by omega), show (-(valD d : Int)).natAbs = valD d by omega, hb, List.cons_append, List.nil_append, ← hnum]
                exact hspl
            · rw [if_neg hneg]
              have hnum : s.take (s.length - 4) = numOf s := by unfold numOf; rw [if_neg hneg]
              refine GoodR.tot fun hi => ⟨hcu', ?_⟩
              have hi' := (inTp_iff _).1 hi
              have hm : min (valD d) 4503599627370497 = valD d := by omega
              rw [hm]
              unfold fmtL
              rw [if_neg (by omega), show ((valD d : Int)).natAbs = valD d by omega, hb, List.nil_append, ← hnum]
              exact hspl
end Go.Proofs.YtadehobimlpmcaaDoor
