/- The division of an amount by weights: ranks, the stable order, and what each part gets. No walk. -/
import Derived.Sort.LotA
namespace Go.Proofs.YtadehobimlpmcaaDoor
set_option linter.unusedVariables false
open Go.Sort

/-- Number j is served ahead of number i: its rest is greater, or the same at a lower place. -/
def ahd (r : Nat → Nat) (j i : Nat) : Bool := decide (r i < r j ∨ (r j = r i ∧ j < i))
theorem ahd_t {r : Nat → Nat} {j i : Nat} : ahd r j i = true ↔ (r i < r j ∨ (r j = r i ∧ j < i)) := by simp [ahd]
theorem ahd_f {r : Nat → Nat} {j i : Nat} : ahd r j i = false ↔ ¬ (r i < r j ∨ (r j = r i ∧ j < i)) := by simp only [ahd, decide_eq_false_iff_not]
theorem ahd_swo (r : Nat → Nat) : SWO (ahd r) :=
  ⟨fun x => by rw [ahd_f]; omega, fun x y z h1 h2 => by rw [ahd_t] at *; omega, fun x y z h1 h2 => by rw [ahd_f] at *; omega⟩
theorem ahd_total (r : Nat → Nat) {i j : Nat} (hne : i ≠ j) (h : ahd r j i = false) : ahd r i j = true := by
  rw [ahd_f] at h; rw [ahd_t]; omega
/-- What the sort asks: the rest of y is less than that of x. -/
def ltR (r : Nat → Nat) (x y : Nat) : Bool := decide (r y < r x)
theorem insInner_perm {α : Type} [Inhabited α] (lt : α → α → Bool) (b : Nat) : ∀ (j : Nat) (d : Array α), j < b → b ≤ d.size → PermIn 0 b d (insInner lt 0 j d)
  | 0, d, _, _ => by unfold insInner; exact permIn_refl d 0 b
  | j + 1, d, hj, hb => by
    unfold insInner
    split
    · exact permIn_trans _ _ _ 0 b (swp_permIn d 0 b (j + 1) j (by omega) hj (by omega) (by omega) hb) (insInner_perm lt b j _ (by omega) (by rw [swp_size]; exact hb))
    · exact permIn_refl d 0 b
theorem insInner_same (r : Nat → Nat) (i : Nat) : ∀ (j : Nat) (d : Array Nat), j < d.size → d[j]! = i → (∀ k, k < j → d[k]! < i) → insInner (ltR r) 0 j d = insInner (ahd r) 0 j d
  | 0, d, _, _, _ => by unfold insInner; rfl
  | j + 1, d, hj, hi, hlt => by
    have hs : ltR r d[j + 1]! d[j]! = ahd r d[j + 1]! d[j]! := by
      have := hlt j (by omega)
      rw [hi]
      generalize d[j]! = y at *
      unfold ltR ahd
      congr 1
      exact propext (by omega)
    unfold insInner
    rw [hs]
    split
    · refine insInner_same r i j (swp d (j + 1) j) (by rw [swp_size]; omega) ?_ (fun k hk => ?_)
      · rw [swp_get d hj (by omega), if_pos rfl]; exact hi
      · rw [swp_get d hj (by omega), if_neg (by omega), if_neg (by omega)]; exact hlt k (by omega)
    · rfl
theorem io_go (lt : Nat → Nat → Bool) (a b i : Nat) (d : Array Nat) (h : i < b) : insOuter lt a b i d = insOuter lt a b (i + 1) (insInner lt a i d) := by rw [insOuter, if_pos h]
theorem io_stop (lt : Nat → Nat → Bool) (a b i : Nat) (d : Array Nat) (h : ¬ i < b) : insOuter lt a b i d = d := by rw [insOuter, if_neg h]
theorem insOuter_same (r : Nat → Nat) (n : Nat) : ∀ (m i : Nat) (d : Array Nat), n - i = m → d.size = n → (∀ k, k < i → d[k]! < i) → (∀ k, i ≤ k → k < n → d[k]! = k) → insOuter (ltR r) 0 n i d = insOuter (ahd r) 0 n i d
  | 0, i, d, hm, hsz, h1, h2 => by
    rw [io_stop _ _ _ _ _ (by omega), io_stop _ _ _ _ _ (by omega)]
  | m + 1, i, d, hm, hsz, h1, h2 => by
    rw [io_go (ltR r) _ _ _ _ (by omega), io_go (ahd r) _ _ _ _ (by omega)]
    rw [insInner_same r i i d (by omega) (h2 i (by omega) (by omega)) h1]
    have hp := insInner_perm (ahd r) (i + 1) i d (by omega) (by omega)
    refine insOuter_same r n m (i + 1) _ (by omega) (hp.1.trans hsz) (fun k hk => ?_) (fun k hk hn => ?_)
    · refine permIn_all d _ 0 (i + 1) (fun x => x < i + 1) (by omega) hp (fun p _ hpi => ?_) k (by omega) hk
      rcases Nat.lt_or_ge p i with q | q
      · have := h1 p q; show d[p]! < i + 1; omega
      · have := h2 p q (by omega); show d[p]! < i + 1; omega
    · rw [hp.2.1 k (.inr hk)]; exact h2 k (by omega) hn
theorem range_get {n k : Nat} (hk : k < n) : (Array.range n)[k]! = k := by
  rw [getElem!_pos _ _ (by simpa using hk)]; simp
theorem insertion_same (r : Nat → Nat) (n : Nat) : insertionSort (ltR r) (Array.range n) 0 n = insertionSort (ahd r) (Array.range n) 0 n := by
  unfold insertionSort
  refine insOuter_same r n (n - 1) 1 _ (by omega) (by simp) (fun k hk => ?_) (fun k hk hn => range_get hn)
  rcases Nat.eq_zero_or_pos n with h0 | h0
  · subst h0; simp
  · rw [range_get (by omega)]; exact hk
/-- The order in which the units that are left are given away. -/
structure Ord (r : Nat → Nat) (n : Nat) (d : Array Nat) : Prop where
  perm : PermIn 0 n (Array.range n) d
  sort : SortedIn (ahd r) 0 n d
theorem ord_sort (r : Nat → Nat) (n : Nat) : Ord r n (insertionSort (ltR r) (Array.range n) 0 n) := by
  rw [insertion_same]
  have h := insertionSort_holds (lt := ahd r) (ahd_swo r) (Array.range n) 0 n (Nat.zero_le _) (by simp)
  exact ⟨h.1, h.2⟩
namespace Ord
variable {r : Nat → Nat} {n : Nat} {d : Array Nat}
theorem size (h : Ord r n d) : d.size = n := h.perm.1.trans (by simp)
theorem toL (h : Ord r n d) : d.toList.Perm (List.range n) := by
  have := h.perm.2.2
  rwa [Array.extract_eq_self_of_le (by rw [h.size]; exact Nat.le_refl _), Array.extract_eq_self_of_le (by simp), Array.toList_range] at this
theorem asMap (h : Ord r n d) : d.toList = (List.range n).map fun k => d[k]! := by
  apply List.ext_getElem
  · simp [h.size]
  · intro k h1 h2
    simp only [List.getElem_map, List.getElem_range, Array.getElem_toList]
    rw [getElem!_pos d k (by simpa using h1)]
theorem lt (h : Ord r n d) {k : Nat} (hk : k < n) : d[k]! < n := by
  have : d[k]! ∈ d.toList := by rw [h.asMap]; exact List.mem_map.2 ⟨k, List.mem_range.2 hk, rfl⟩
  exact List.mem_range.1 (h.toL.mem_iff.1 this)
theorem inj (h : Ord r n d) {p q : Nat} (hp : p < n) (hq : q < n) (e : d[p]! = d[q]!) : p = q := by
  have hn : d.toList.Nodup := h.toL.nodup_iff.2 List.nodup_range
  rw [getElem!_pos d p (by rw [h.size]; exact hp), getElem!_pos d q (by rw [h.size]; exact hq)] at e
  have hpw := List.pairwise_iff_getElem.1 hn
  rcases Nat.lt_trichotomy p q with h1 | h1 | h1
  · exact absurd (by rw [Array.getElem_toList, Array.getElem_toList]; exact e) (hpw p q _ _ h1)
  · exact h1
  · exact absurd (by rw [Array.getElem_toList, Array.getElem_toList]; exact e.symm) (hpw q p _ _ h1)
theorem ahead (h : Ord r n d) {p q : Nat} (hpq : p < q) (hq : q < n) : ahd r d[p]! d[q]! = true :=
  ahd_total r (fun e => by have := h.inj (by omega) hq e; omega) (h.sort p q (Nat.zero_le _) hpq hq)
theorem ahead_iff (h : Ord r n d) {p q : Nat} (hp : p < n) (hq : q < n) : ahd r d[p]! d[q]! = decide (p < q) := by
  rcases Nat.lt_trichotomy p q with e | e | e
  · rw [h.ahead e hq, decide_eq_true e]
  · subst e; rw [(ahd_swo r).irrefl, decide_eq_false (by omega)]
  · rw [(ahd_swo r).asymmA (h.ahead e hp), decide_eq_false (by omega)]
theorem find (h : Ord r n d) {i : Nat} (hi : i < n) : ∃ p, p < n ∧ d[p]! = i := by
  have : i ∈ d.toList := h.toL.mem_iff.2 (List.mem_range.2 hi)
  rw [h.asMap] at this
  obtain ⟨p, hp, e⟩ := List.mem_map.1 this
  exact ⟨p, List.mem_range.1 hp, e⟩
end Ord
theorem filter_lt (n k : Nat) (hk : k ≤ n) : ((List.range n).filter fun p => decide (p < k)).length = k := by
  obtain ⟨m, rfl⟩ : ∃ m, n = k + m := ⟨n - k, by omega⟩
  rw [List.range_add, List.filter_append, List.filter_eq_self.2 (fun a ha => decide_eq_true (List.mem_range.1 ha)), List.length_append, List.length_range]
  rw [List.filter_eq_nil_iff.2]
  · rfl
  · intro a ha
    obtain ⟨x, _, rfl⟩ := List.mem_map.1 ha
    simp
/-- How many are served ahead of i. -/
def rk (n : Nat) (r : Nat → Nat) (i : Nat) : Nat := ((List.range n).filter fun j => ahd r j i).length
theorem Ord.rk {r : Nat → Nat} {n : Nat} {d : Array Nat} (h : Ord r n d) {k : Nat} (hk : k < n) : rk n r d[k]! = k := by
  unfold YtadehobimlpmcaaDoor.rk
  rw [← (h.toL.filter _).length_eq, h.asMap, List.filter_map, List.length_map]
  rw [List.filter_congr (q := fun p => decide (p < k)) (fun p hp => by simp only [Function.comp]; exact h.ahead_iff (List.mem_range.1 hp) hk)]
  exact filter_lt n k (by omega)
theorem rk_ex (r : Nat → Nat) {n k : Nat} (hk : k < n) : ∃ c, c < n ∧ rk n r c = k :=
  ⟨_, (ord_sort r n).lt hk, (ord_sort r n).rk hk⟩
theorem rk_lt (r : Nat → Nat) {n i : Nat} (hi : i < n) : rk n r i < n := by
  obtain ⟨p, hp, e⟩ := (ord_sort r n).find hi
  rw [← e, (ord_sort r n).rk hp]; exact hp
theorem rk_ahd (r : Nat → Nat) {n b c : Nat} (hb : b < n) (hc : c < n) (h : ahd r b c = true) : rk n r b < rk n r c := by
  obtain ⟨p, hp, rfl⟩ := (ord_sort r n).find hb
  obtain ⟨q, hq, rfl⟩ := (ord_sort r n).find hc
  rw [(ord_sort r n).rk hp, (ord_sort r n).rk hq]
  rw [(ord_sort r n).ahead_iff hp hq] at h
  exact of_decide_eq_true h
theorem rk_inj (r : Nat → Nat) {n b c : Nat} (hb : b < n) (hc : c < n) (h : rk n r b = rk n r c) : b = c := by
  rcases Nat.lt_trichotomy b c with e | e | e
  · cases q : ahd r b c
    · have := rk_ahd r hc hb (ahd_total r (by omega) q); omega
    · have := rk_ahd r hb hc q; omega
  · exact e
  · cases q : ahd r b c
    · have := rk_ahd r hc hb (ahd_total r (by omega) q); omega
    · have := rk_ahd r hb hc q; omega
theorem rk_count (r : Nat → Nat) (n L : Nat) (hL : L ≤ n) : ((List.range n).filter fun i => decide (rk n r i < L)).length = L := by
  have h := ord_sort r n
  rw [← (h.toL.filter _).length_eq, h.asMap, List.filter_map, List.length_map]
  rw [List.filter_congr (q := fun p => decide (p < L)) (fun p hp => by simp only [Function.comp]; rw [h.rk (List.mem_range.1 hp)])]
  exact filter_lt n L hL
/-- The reference's choice: the first of the greatest rests, where those already served stand at -1. -/
theorem best_rank (r : Nat → Nat) (n k b : Nat) (f : Nat → Int) (hf : ∀ j, j < n → f j = if rk n r j < k then -1 else (r j : Int)) (hk : k < n) (hb : b < n) (hge : ∀ j, j < n → f j ≤ f b) (hgt : ∀ j, j < b → f j < f b) : rk n r b = k := by
  obtain ⟨c, hc, hck⟩ := rk_ex r hk
  have hfc : f c = r c := by rw [hf c hc, if_neg (by omega)]
  have h1 := hge c hc
  by_cases hlt : rk n r b < k
  · have hfb := hf b hb
    rw [if_pos hlt] at hfb; omega
  · have hfb : f b = r b := by rw [hf b hb, if_neg hlt]
    by_cases e : b = c
    · rw [e]; exact hck
    · have : ahd r b c = true := by
        rw [ahd_t]
        rcases Nat.lt_or_ge c b with q | q
        · have := hgt c q; omega
        · omega
      have := rk_ahd r hb hc this; omega
/-! ### The numbers -/
/-- The quotient, the rest and the part of place i. -/
def qOf (W S : Nat) (ws : List Nat) (i : Nat) : Nat := W * ws.getD i 0 / S
def rOf (W S : Nat) (ws : List Nat) (i : Nat) : Nat := W * ws.getD i 0 % S
def sumTo (f : Nat → Nat) : Nat → Nat
  | 0 => 0
  | k + 1 => sumTo f k + f k
/-- What is left when all have their quotients. -/
def leftOf (W S : Nat) (ws : List Nat) : Nat := W - sumTo (qOf W S ws) ws.length
def partOf (W S : Nat) (ws : List Nat) (i : Nat) : Nat := qOf W S ws i + if rk ws.length (rOf W S ws) i < leftOf W S ws then 1 else 0
theorem sumTo_congr {f g : Nat → Nat} : ∀ k, (∀ i, i < k → f i = g i) → sumTo f k = sumTo g k
  | 0, _ => rfl
  | k + 1, h => by rw [sumTo, sumTo, sumTo_congr k (fun i hi => h i (by omega)), h k (by omega)]
theorem sumTo_mono {f : Nat → Nat} {i k : Nat} (h : i ≤ k) : sumTo f i ≤ sumTo f k := by
  induction k with
  | zero => rw [Nat.le_zero.1 h]; exact Nat.le_refl _
  | succ k ih =>
    rcases Nat.lt_or_ge i (k + 1) with q | q
    · rw [sumTo]; have := ih (by omega); omega
    · rw [Nat.le_antisymm h q]; exact Nat.le_refl _
theorem sumTo_le_at {f : Nat → Nat} {i k : Nat} (h : i < k) : f i ≤ sumTo f k := by
  have := sumTo_mono (f := f) (show i + 1 ≤ k from h)
  rw [sumTo] at this; omega
theorem sumTo_add (f g : Nat → Nat) : ∀ k, sumTo (fun i => f i + g i) k = sumTo f k + sumTo g k
  | 0 => rfl
  | k + 1 => by rw [sumTo, sumTo, sumTo, sumTo_add f g k]; omega
theorem sumTo_mul (c : Nat) (f : Nat → Nat) : ∀ k, sumTo (fun i => c * f i) k = c * sumTo f k
  | 0 => rfl
  | k + 1 => by rw [sumTo, sumTo, sumTo_mul c f k, Nat.mul_add]
theorem sumTo_ite (p : Nat → Prop) [DecidablePred p] : ∀ k, sumTo (fun i => if p i then 1 else 0) k = ((List.range k).filter fun i => decide (p i)).length
  | 0 => rfl
  | k + 1 => by
    rw [sumTo, List.range_succ, List.filter_append, List.length_append, sumTo_ite p k]
    by_cases h : p k <;> simp [h]
theorem sumTo_le_mul (f : Nat → Nat) (S : Nat) : ∀ k, (∀ i, i < k → f i ≤ S) → sumTo f k ≤ ((List.range k).filter fun i => decide (0 < f i)).length * S
  | 0, _ => by simp [sumTo]
  | k + 1, h => by
    rw [sumTo, List.range_succ, List.filter_append, List.length_append]
    have ih := sumTo_le_mul f S k (fun i hi => h i (by omega))
    have hk := h k (by omega)
    by_cases h0 : 0 < f k
    · simp only [List.filter_cons, List.filter_nil, h0, decide_true, if_true, List.length_cons, List.length_nil]
      rw [Nat.add_mul]; omega
    · simp only [List.filter_cons, List.filter_nil, h0, decide_false]
      simp only [Bool.false_eq_true, if_false, List.length_nil, Nat.add_zero]; omega
section
variable (W S : Nat) (ws : List Nat)
theorem div_sum : S * sumTo (qOf W S ws) ws.length + sumTo (rOf W S ws) ws.length = W * sumTo (fun i => ws.getD i 0) ws.length := by
  rw [← sumTo_mul, ← sumTo_add, ← sumTo_mul]
  refine sumTo_congr _ (fun i _ => ?_)
  exact Nat.div_add_mod _ _
variable (hS : S = sumTo (fun i => ws.getD i 0) ws.length) (h0 : 0 < S)
include hS h0
theorem rest_sum : sumTo (qOf W S ws) ws.length ≤ W ∧ sumTo (rOf W S ws) ws.length = S * leftOf W S ws := by
  have h := div_sum W S ws
  rw [← hS, Nat.mul_comm W S] at h
  unfold leftOf
  generalize sumTo (qOf W S ws) ws.length = Q at *
  generalize sumTo (rOf W S ws) ws.length = R at *
  have hQ : Q ≤ W := by
    refine Nat.le_of_mul_le_mul_left (show S * Q ≤ S * W by omega) h0
  refine ⟨hQ, ?_⟩
  rw [Nat.mul_sub]; omega
theorem left_le : leftOf W S ws ≤ ((List.range ws.length).filter fun i => decide (0 < rOf W S ws i)).length := by
  have h := (rest_sum W S ws hS h0).2
  have h2 := sumTo_le_mul (rOf W S ws) S ws.length (fun i _ => Nat.le_of_lt (Nat.mod_lt _ h0))
  rw [h, Nat.mul_comm] at h2
  exact Nat.le_of_mul_le_mul_right h2 h0
theorem left_le_n : leftOf W S ws ≤ ws.length := by
  have h := left_le W S ws hS h0
  have := List.length_filter_le (fun i => decide (0 < rOf W S ws i)) (List.range ws.length)
  rw [List.length_range] at this; omega
/-- Only who has a rest gets one of the units that are left. -/
theorem rest_pos {i : Nat} (h : rk ws.length (rOf W S ws) i < leftOf W S ws) : 0 < rOf W S ws i := by
  rcases Nat.eq_zero_or_pos (rOf W S ws i) with e | e
  · have h1 := left_le W S ws hS h0
    have h2 : ((List.range ws.length).filter fun j => decide (0 < rOf W S ws j)).length ≤ rk ws.length (rOf W S ws) i := by
      unfold rk
      rw [← List.countP_eq_length_filter, ← List.countP_eq_length_filter]
      refine List.countP_mono_left (fun j _ hj => ?_)
      rw [ahd_t]; have := of_decide_eq_true hj; omega
    omega
  · exact e
theorem part_sum : sumTo (partOf W S ws) ws.length = W := by
  have h1 := (rest_sum W S ws hS h0).1
  have h2 := rk_count (rOf W S ws) ws.length (leftOf W S ws) (left_le_n W S ws hS h0)
  have : sumTo (partOf W S ws) ws.length = sumTo (qOf W S ws) ws.length + sumTo (fun i => if rk ws.length (rOf W S ws) i < leftOf W S ws then 1 else 0) ws.length := by
    rw [← sumTo_add]; rfl
  rw [this, sumTo_ite, h2]
  unfold leftOf; omega
theorem part_zero {i : Nat} (h : ws.getD i 0 = 0) : partOf W S ws i = 0 := by
  have hr : rOf W S ws i = 0 := by unfold rOf; rw [h]; simp
  unfold partOf
  rw [if_neg (fun h' => by have := rest_pos W S ws hS h0 h'; omega)]
  unfold qOf; rw [h]; simp
theorem part_near (i : Nat) : ∃ e : Nat, S * partOf W S ws i + (if rk ws.length (rOf W S ws) i < leftOf W S ws then 0 else rOf W S ws i) = W * ws.getD i 0 + (if rk ws.length (rOf W S ws) i < leftOf W S ws then S - rOf W S ws i else 0) ∧ rOf W S ws i < S ∧ (rk ws.length (rOf W S ws) i < leftOf W S ws → 0 < rOf W S ws i) := by
  refine ⟨0, ?_, Nat.mod_lt _ h0, rest_pos W S ws hS h0⟩
  have h := Nat.div_add_mod (W * ws.getD i 0) S
  have hl : rOf W S ws i < S := Nat.mod_lt _ h0
  unfold partOf
  unfold rOf qOf at *
  generalize W * ws.getD i 0 / S = q at *
  generalize W * ws.getD i 0 % S = m at *
  split
  · rw [Nat.mul_add]; omega
  · rw [Nat.add_zero]; omega
end
end Go.Proofs.YtadehobimlpmcaaDoor
