/- The division of an amount by weights: ranks, the stable order, and what each part gets. No walk. -/
import Derived.Sort.LotA
namespace Go.Proofs.YtiegoffdbhmfbaaGreatDoor
set_option linter.unusedVariables false
open Go.Sort

/-- Number j is served ahead of number i: its rest is greater, or the same at a lower place. -/
def ahd (r : Nat → Nat) (j i : Nat) : Bool := decide (r i < r j ∨ (r j = r i ∧ j < i))
theorem ahd_t {r : Nat → Nat} {j i : Nat} : ahd r j i = true ↔ (r i < r j ∨ (r j = r i ∧ j < i)) := by simp [ahd]
theorem ahd_f {r : Nat → Nat} {j i : Nat} : ahd r j i = false ↔ ¬ (r i < r j ∨ (r j = r i ∧ j < i)) := by simp only [ahd, decide_eq_false_iff_not]
theorem ahd_swo (r : Nat → Nat) : SWO (ahd r) :=
  ⟨fun x => by rw [ahd_f]; omega, fun x y z h1 h2 => by rw [ahd_t] at *; omega, fun x y z h1 h2 => by rw [ahd_f] at *; omega⟩
theorem ahd_total (r : Nat → Nat) {i j : Nat} (hne : i ≠ j) (h : ahd r j i = false) : ahd r i j = true := by
  rw [ahd_f] at h; rw [ahd_t]; omega
/-- What the sort asks: the rest of y is less than that of x. -/
def ltR (r : Nat → Nat) (x y : Nat) : Bool := decide (r y < r x)
theorem insInner_perm {α : Type} [Inhabited α] (lt : α → α → Bool) (b : Nat) : ∀ (j : Nat) (d : Array α), j < b → b ≤ d.size → PermIn 0 b d (insInner lt 0 j d)
  | 0, d, _, _ => by unfold insInner; exact permIn_refl d 0 b
  | j + 1, d, hj, hb => by
    unfold insInner
    split
    · exact permIn_trans _ _ _ 0 b (swp_permIn d 0 b (j + 1) j (by omega) hj (by omega) (by omega) hb) (insInner_perm lt b j _ (by omega) (by rw [swp_size]; exact hb))
    · exact permIn_refl d 0 b
theorem insInner_same (r : Nat → Nat) (i : Nat) : ∀ (j : Nat) (d : Array Nat), j < d.size → d[j]! = i → (∀ k, k < j → d[k]! < i) → insInner (ltR r) 0 j d = insInner (ahd r) 0 j d
  | 0, d, _, _, _ => by unfold insInner; rfl
  | j + 1, d, hj, hi, hlt => by
    have hs : ltR r d[j + 1]! d[j]! = ahd r d[j + 1]! d[j]! := by
      have := hlt j (by omega)
      rw [hi]
      generalize d[j]! = y at *
      unfold ltR ahd
      congr 1
      exact propext (by omega)
    unfold insInner
    rw [hs]
    split
    · refine insInner_same r i j (swp d (j + 1) j) (by rw [swp_size]; omega) ?_ (fun k hk => ?_)
      · rw [swp_get d hj (by omega), if_pos rfl]; exact hi
      · rw [swp_get d hj (by omega), if_neg (by omega), if_neg (by omega)]; exact hlt k (by omega)
    · rfl
theorem io_go (lt : Nat → Nat → Bool) (a b i : Nat) (d : Array Nat) (h : i < b) : insOuter lt a b i d = insOuter lt a b (i + 1) (insInner lt a i d) := by rw [insOuter, if_pos h]
theorem io_stop (lt : Nat → Nat → Bool) (a b i : Nat) (d : Array Nat) (h : ¬ i < b) : insOuter lt a b i d = d := by rw [insOuter, if_neg h]
theorem insOuter_same (r : Nat → Nat) (n : Nat) : ∀ (m i : Nat) (d : Array Nat), n - i = m → d.size = n → (∀ k, k < i → d[k]! < i) → (∀ k, i ≤ k → k < n → d[k]! = k) → insOuter (ltR r) 0 n i d = insOuter (ahd r) 0 n i d
  | 0, i, d, hm, hsz, h1, h2 => by
    rw [io_stop _ _ _ _ _ (by omega), io_stop _ _ _ _ _ (by omega)]
  | m + 1, i, d, hm, hsz, h1, h2 => by
    rw [io_go (ltR r) _ _ _ _ (by omega), io_go (ahd r) _ _ _ _ (by omega)]
    rw [insInner_same r i i d (by omega) (h2 i (by omega) (by omega)) h1]
    have hp := insInner_perm (ahd r) (i + 1) i d (by omega) (by omega)
    refine insOuter_same r n m (i + 1) _ (by omega) (hp.1.trans hsz) (fun k hk => ?_) (fun k hk hn => ?_)
    · refine permIn_all d _ 0 (i + 1) (fun x => x < i + 1) (by omega) hp (fun p _ hpi => ?_) k (by omega) hk
      rcases Nat.lt_or_ge p i with q | q
      · have := h1 p q; show d[p]! < i + 1; omega
      · have := h2 p q (by omega); show d[p]! < i + 1; omega
    · rw [hp.2.1 k (.inr hk)]; exact h2 k (by omega) hn
theorem range_get {n k : Nat} (hk : k < n) : (Array.range n)[k]! = k := by
  rw [getElem!_pos _ _ (by simpa using hk)]; simp
theorem insertion_same (r : Nat → Nat) (n : Nat) : insertionSort (ltR r) (Array.range n) 0 n = insertionSort (ahd r) (Array.range n) 0 n := by
  unfold insertionSort
  refine insOuter_same r n (n - 1) 1 _ (by omega) (by simp) (fun k hk => ?_) (fun k hk hn => range_get hn)
  rcases Nat.eq_zero_or_pos n with h0 | h0
  · subst h0; simp
  · rw [range_get (by omega)]; exact hk
/-- The order in which the units that are left are given away. -/
structure Ord (r : Nat → Nat) (n : Nat) (d : Array Nat) : Prop where
  perm : PermIn 0 n (Array.range n) d
  sort : SortedIn (ahd r) 0 n d
theorem ord_sort (r : Nat → Nat) (n : Nat) : Ord r n (insertionSort (ltR r) (Array.range n) 0 n) := by
  rw [insertion_same]
  have h := insertionSort_holds (lt := ahd r) (ahd_swo r) (Array.range n) 0 n (Nat.zero_le _) (by simp)
  exact ⟨h.1, h.2⟩
namespace Ord
variable {r : Nat → Nat} {n : Nat} {d : Array Nat}
theorem size (h : Ord r n d) : d.size = n := h.perm.1.trans (by simp)
theorem toL (h : Ord r n d) : d.toList.Perm (List.range n) := by
  have := h.perm.2.2
  rwa [Array.extract_eq_self_of_le (by rw [h.size]; exact Nat.le_refl _), Array.extract_eq_self_of_le (by simp), Array.toList_range] at this
theorem asMap (h : Ord r n d) : d.toList = (List.range n).map fun k => d[k]! := by
  apply List.ext_getElem
  · simp [h.size]
  · intro k h1 h2
    simp only [List.getElem_map, List.getElem_range, Array.getElem_toList]
    rw [getElem!_pos d k (by simpa using h1)]
theorem lt (h : Ord r n d) {k : Nat} (hk : k < n) : d[k]! < n := by
  have : d[k]! ∈ d.toList := by rw [h.asMap]; exact List.mem_map.2 ⟨k, List.mem_range.2 hk, rfl⟩
  exact List.mem_range.1 (h.toL.mem_iff.1 this)
theorem inj (h : Ord r n d) {p q : Nat} (hp : p < n) (hq : q < n) (e : d[p]! = d[q]!) : p = q := by
  have hn : d.toList.Nodup := h.toL.nodup_iff.2 List.nodup_range
  rw [getElem!_pos d p (by rw [h.size]; exact hp), getElem!_pos d q (by rw [h.size]; exact hq)] at e
  have hpw := List.pairwise_iff_getElem.1 hn
  rcases Nat.lt_trichotomy p q with h1 | h1 | h1
  · exact absurd (by rw [Array.getElem_toList, Array.getElem_toList]; exact e) (hpw p q _ _ h1)
  · exact h1
  · exact absurd (by rw [Array.getElem_toList, Array.getElem_toList]; exact e.symm) (hpw q p _ _ h1)
theorem ahead (h : Ord r n d) {p q : Nat} (hpq : p < q) (hq : q < n) : ahd r d[p]! d[q]! = true :=
  ahd_total r (fun e => by have := h.inj (by omega) hq e; omega) (h.sort p q (Nat.zero_le _) hpq hq)
theorem ahead_iff (h : Ord r n d) {p q : Nat} (hp : p < n) (hq : q < n) : ahd r d[p]! d[q]! = decide (p < q) := by
  rcases Nat.lt_trichotomy p q with e | e | e
  · rw [h.ahead e hq, decide_eq_true e]
  · subst e; rw [(ahd_swo r).irrefl, decide_eq_false (by omega)]
  · rw [(ahd_swo r).asymmA (h.ahead e hp), decide_eq_false (by omega)]
theorem find (h : Ord r n d) {i : Nat} (hi : i < n) : ∃ p, p < n ∧ d[p]! = i := by
  have : i ∈ d.toList := h.toL.mem_iff.2 (List.mem_range.2 hi)
  rw [h.asMap] at this
  obtain ⟨p, hp, e⟩ := List.mem_map.1 this
  exact ⟨p, List.mem_range.1 hp, e⟩
end Ord
theorem filter_lt (n k : Nat) (hk : k ≤ n) : ((List.range n).filter fun p => decide (p < k)).length = k := by
  obtain ⟨m, rfl⟩ : ∃ m, n = k + m := ⟨n - k, by omega⟩
  rw [List.range_add, List.filter_append, List.filter_eq_self.2 (fun a ha => decide_eq_true (List.mem_range.1 ha)), List.length_append, List.length_range]
  rw [List.filter_eq_nil_iff.2]
  · rfl
  · intro a ha
    obtain ⟨x, _, rfl⟩ := List.mem_map.1 ha
    simp
end Go.Proofs.YtiegoffdbhmfbaaGreatDoor
