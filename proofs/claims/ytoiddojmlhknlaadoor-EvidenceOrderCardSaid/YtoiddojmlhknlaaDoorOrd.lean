/- The plain laws of EvidenceOrder: what is missing shrinks; the digest does not depend on the order. -/
import Derived.Test.YtoiddojmlhknlaaDoorFld
namespace Go.Proofs.YtoiddojmlhknlaaDoor
set_option linter.unusedVariables false
open Go.RowKit Go.Maps

theorem filt_has (r : List ByteArray) (p : ByteArray → Bool) (x : ByteArray) : hasB (r.filter p) x = (hasB r x && p x) := by
  rw [Bool.eq_iff_iff, Bool.and_eq_true, hasB_iff, hasB_iff, List.mem_filter]
theorem miss_filter (ks ks' needs : List ByteArray) (h : ∀ x, hasB ks x = true → hasB ks' x = true) : missL ks' needs = (missL ks needs).filter (fun x => !hasB ks' x) := by
  have key : ∀ (n r : List ByteArray), n.foldl (missStep ks') (r.filter (fun x => !hasB ks' x)) = (n.foldl (missStep ks) r).filter (fun x => !hasB ks' x) := by
    intro n
    induction n with
    | nil => intro r; rfl
    | cons x n ih =>
      intro r
      rw [List.foldl_cons, List.foldl_cons, ← ih]
      congr 1
      unfold missStep
      rw [filt_has]
      cases h1 : hasB ks x
      · cases h2 : hasB r x
        · cases h3 : hasB ks' x
          · simp [List.filter_append, h3]
          · simp [List.filter_append, h3]
        · cases h3 : hasB ks' x <;> simp
      · have h3 := h x h1
        simp [h3]
  have := key needs []
  simpa [missL] using this
theorem miss_len (ks ks' needs : List ByteArray) (h : ∀ x, hasB ks x = true → hasB ks' x = true) : (missL ks' needs).length ≤ (missL ks needs).length := by
  rw [miss_filter ks ks' needs h]; exact List.length_filter_le _ _
theorem ks_mono (l : List Itm) (x : Itm) : ∀ s, hasB (ksOf l) s = true → hasB (ksOf (addL l x)) s = true := by
  intro s hs
  unfold addL
  split
  · unfold ksOf at hs ⊢
    rw [List.map_append, hasB_append, hs]; rfl
  · exact hs
theorem miss_addL (l : List Itm) (x : Itm) (needs : List ByteArray) : (missL (ksOf (addL l x)) needs).length ≤ (missL (ksOf l) needs).length := miss_len _ _ _ (ks_mono l x)
/-- At most 16 items: each valid one is there once. -/
theorem addAll_small (l : List Itm) (h : l.length ≤ 16) : (addAll l).length ≤ l.length ∧ ∀ x, (addAll l).count x = if x ∈ l ∧ chkE x.k x.n = 0 then 1 else 0 := by
  have key : ∀ n, n ≤ l.length → (addAll (l.take n)).length ≤ n ∧ ∀ x, (addAll (l.take n)).count x = if x ∈ l.take n ∧ chkE x.k x.n = 0 then 1 else 0 := by
    intro n
    induction n with
    | zero => intro _; simp [addAll]
    | succ n ih =>
      intro hn
      obtain ⟨h1, h2⟩ := ih (by omega)
      have hlt : n < l.length := by omega
      rw [items_take l n hlt, addAll_snoc]
      generalize l[n] = y
      generalize addAll (l.take n) = L at *
      generalize l.take n = m at *
      have hfull : ¬ 16 ≤ L.length := by omega
      by_cases hv : chkE y.k y.n = 0
      · cases hh : hasI L y
        · rw [(addE_ok L y hv hfull hh).2]
          have hni : y ∉ L := by unfold hasI at hh; exact of_decide_eq_false hh
          refine ⟨by simp; omega, fun x => ?_⟩
          rw [List.count_append, h2 x, List.count_singleton]
          by_cases hxy : x = y
          · subst hxy
            have h0 := h2 x
            rw [List.count_eq_zero_of_not_mem hni] at h0
            have hnm : ¬ (x ∈ m ∧ chkE x.k x.n = 0) := by
              intro c; rw [if_pos c] at h0; cases h0
            rw [if_neg hnm, if_pos (by simp), if_pos ⟨by simp, hv⟩]
          · have e1 : (y == x) = false := beq_eq_false_iff_ne.2 (fun e => hxy e.symm)
            rw [e1]
            simp only [List.mem_append, List.mem_singleton, hxy, or_false, Bool.false_eq_true, if_false, Nat.add_zero]
        · rw [(addE_has L y hv hfull hh).2]
          have hin : y ∈ L := by unfold hasI at hh; exact of_decide_eq_true hh
          refine ⟨by omega, fun x => ?_⟩
          rw [h2 x]
          by_cases hxy : x = y
          · subst hxy
            have h0 := h2 x
            have hp : 0 < L.count x := List.count_pos_iff.2 hin
            have hm : x ∈ m ∧ chkE x.k x.n = 0 := by
              apply Classical.byContradiction
              intro c; rw [if_neg c] at h0; omega
            rw [if_pos hm, if_pos ⟨by simp, hv⟩]
          · simp only [List.mem_append, List.mem_singleton, hxy, or_false]
      · rw [(addE_chk L y hv).2]
        refine ⟨by omega, fun x => ?_⟩
        rw [h2 x]
        by_cases hxy : x = y
        · subst hxy
          rw [if_neg (fun c => hv c.2), if_neg (fun c => hv c.2)]
        · simp only [List.mem_append, List.mem_singleton, hxy, or_false]
  have := key l.length (Nat.le_refl _)
  rwa [List.take_length] at this
theorem addAll_rev (l : List Itm) (h : l.length ≤ 16) : (addAll l).Perm (addAll l.reverse) := by
  rw [List.perm_iff_count]
  intro x
  rw [(addAll_small l h).2 x, (addAll_small l.reverse (by simpa using h)).2 x]
  simp only [List.mem_reverse]
theorem digStep_comm (s : Nat) (x y : Itm) : digStep (digStep s x) y = digStep (digStep s y) x := by
  unfold digStep M64; omega
theorem dig_perm (a b : List Itm) (h : a.Perm b) : digOf a = digOf b :=
  h.foldl_eq' (fun x _ y _ z => digStep_comm z x y) 0
theorem rev_take (l : List Itm) (k : Nat) (h : k < l.length) : addAll (l.reverse.take (k + 1)) = addL (addAll (l.reverse.take k)) (l[l.length - 1 - k]'(by omega)) := by
  rw [List.take_succ_eq_append_getElem (by simpa using h), addAll_snoc, List.getElem_reverse]
end Go.Proofs.YtoiddojmlhknlaaDoor
