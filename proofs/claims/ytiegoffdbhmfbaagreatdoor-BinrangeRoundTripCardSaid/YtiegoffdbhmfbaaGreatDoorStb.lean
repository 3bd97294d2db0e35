/- The stable sort at any length: the plain law of its blocks. No walk. -/
import Derived.Test.YtiegoffdbhmfbaaGreatDoorSpo
import Derived.Test.YtiegoffdbhmfbaaGreatDoorSym
namespace Go.Proofs.YtiegoffdbhmfbaaGreatDoor
set_option linter.unusedVariables false
open Go.Sort

theorem insInner_permA (lt : Nat → Nat → Bool) (a b : Nat) : ∀ (j : Nat) (d : Array Nat), a ≤ j → j < b → b ≤ d.size → PermIn a b d (insInner lt a j d)
  | 0, d, _, _, _ => by unfold insInner; exact permIn_refl d a b
  | j + 1, d, ha, hj, hb => by
    unfold insInner
    split
    · rename_i hc
      simp only [Bool.and_eq_true, decide_eq_true_eq] at hc
      exact permIn_trans _ _ _ a b (swp_permIn d a b (j + 1) j ha hj (by omega) (by omega) hb) (insInner_permA lt a b j _ (by omega) (by omega) (by rw [swp_size]; exact hb))
    · exact permIn_refl d a b
theorem insInner_sameA (r : Nat → Nat) (a i : Nat) : ∀ (j : Nat) (d : Array Nat), j < d.size → d[j]! = i → (∀ k, a ≤ k → k < j → d[k]! < i) → insInner (ltR r) a j d = insInner (ahd r) a j d
  | 0, d, _, _, _ => by unfold insInner; rfl
  | j + 1, d, hj, hi, hlt => by
    unfold insInner
    by_cases haj : j + 1 > a
    · have hs : ltR r d[j + 1]! d[j]! = ahd r d[j + 1]! d[j]! := by
        have := hlt j (by omega) (by omega)
        rw [hi]
        generalize d[j]! = y at *
        unfold ltR ahd
        congr 1
        exact propext (by omega)
      rw [hs]
      split
      · refine insInner_sameA r a i j (swp d (j + 1) j) (by rw [swp_size]; omega) ?_ (fun k hka hk => ?_)
        · rw [swp_get d hj (by omega), if_pos rfl]; exact hi
        · rw [swp_get d hj (by omega), if_neg (by omega), if_neg (by omega)]; exact hlt k hka (by omega)
      · rfl
    · rw [decide_eq_false haj]; rfl
theorem insOuter_sameA (r : Nat → Nat) (a b : Nat) : ∀ (m i : Nat) (d : Array Nat), b - i = m → a ≤ i → b ≤ d.size → (∀ k, a ≤ k → k < i → d[k]! < i) → (∀ k, i ≤ k → k < b → d[k]! = k) → insOuter (ltR r) a b i d = insOuter (ahd r) a b i d
  | 0, i, d, hm, hai, hsz, h1, h2 => by
    rw [io_stop _ _ _ _ _ (by omega), io_stop _ _ _ _ _ (by omega)]
  | m + 1, i, d, hm, hai, hsz, h1, h2 => by
    rw [io_go (ltR r) _ _ _ _ (by omega), io_go (ahd r) _ _ _ _ (by omega)]
    rw [insInner_sameA r a i i d (by omega) (h2 i (by omega) (by omega)) h1]
    have hp := insInner_permA (ahd r) a (i + 1) i d hai (by omega) (by omega)
    refine insOuter_sameA r a b m (i + 1) _ (by omega) (by omega) (by rw [hp.1]; exact hsz) (fun k hka hk => ?_) (fun k hk hn => ?_)
    · refine permIn_all d _ a (i + 1) (fun x => x < i + 1) (by omega) hp (fun p hpa hpi => ?_) k hka hk
      rcases Nat.lt_or_ge p i with q | q
      · have := h1 p hpa q; show d[p]! < i + 1; omega
      · have := h2 p q (by omega); show d[p]! < i + 1; omega
    · rw [hp.2.1 k (.inr hk)]; exact h2 k (by omega) hn
theorem insertion_sameA (r : Nat → Nat) (a b : Nat) (d : Array Nat) (hab : a < b) (hb : b ≤ d.size) (h : ∀ k, a ≤ k → k < b → d[k]! = k) : insertionSort (ltR r) d a b = insertionSort (ahd r) d a b := by
  unfold insertionSort
  refine insOuter_sameA r a b (b - (a + 1)) (a + 1) d rfl (by omega) hb (fun k hka hk => ?_) (fun k hk hn => h k (by omega) hn)
  obtain rfl : k = a := by omega
  rw [h k (Nat.le_refl _) hab]; omega
/-- A block: its own places, sorted. -/
structure Seg (r : Nat → Nat) (lo hi : Nat) (d : Array Nat) : Prop where
  sort : SortedIn (ahd r) lo hi d
  lo' : ∀ p, lo ≤ p → p < hi → lo ≤ d[p]!
  hi' : ∀ p, lo ≤ p → p < hi → d[p]! < hi
theorem Seg.empty (r : Nat → Nat) (lo : Nat) (d : Array Nat) : Seg r lo lo d := ⟨fun i j h1 h2 h3 => by omega, fun p h1 h2 => by omega, fun p h1 h2 => by omega⟩
theorem Seg.congr {r : Nat → Nat} {lo hi : Nat} {d d' : Array Nat} (h : Seg r lo hi d) (e : ∀ p, lo ≤ p → p < hi → d'[p]! = d[p]!) : Seg r lo hi d' :=
  ⟨fun i j h1 h2 h3 => by rw [e i h1 (by omega), e j (by omega) h3]; exact h.sort i j h1 h2 h3, fun p h1 h2 => by rw [e p h1 h2]; exact h.lo' p h1 h2, fun p h1 h2 => by rw [e p h1 h2]; exact h.hi' p h1 h2⟩
theorem Seg.two {r : Nat → Nat} {a m b : Nat} {d : Array Nat} (h1 : Seg r a m d) (h2 : Seg r m b d) (am : a < m) (mb : m < b) (bs : b ≤ d.size) : Two (ahd r) (ltR r) a m b d :=
  ⟨am, mb, bs, h1.sort, h2.sort, fun i j ia im mj jb => by
    have := h1.hi' i ia im
    have := h2.lo' j mj jb
    generalize d[i]! = x at *
    generalize d[j]! = y at *
    unfold ltR ahd
    congr 1
    exact propext (by omega)⟩
theorem Seg.join {r : Nat → Nat} {a m b : Nat} {d d' : Array Nat} (h1 : Seg r a m d) (h2 : Seg r m b d) (am : a ≤ m) (mb : m ≤ b) (bs : b ≤ d.size) (hp : PermIn a b d d') (hs : SortedIn (ahd r) a b d') : Seg r a b d' := by
  have all : ∀ p, a ≤ p → p < b → a ≤ d[p]! ∧ d[p]! < b := fun p p1 p2 => by
    rcases Nat.lt_or_ge p m with q | q
    · have := h1.lo' p p1 q; have := h1.hi' p p1 q; omega
    · have := h2.lo' p q p2; have := h2.hi' p q p2; omega
  have all' := permIn_all d d' a b (fun x => a ≤ x ∧ x < b) bs hp all
  exact ⟨hs, fun p p1 p2 => (all' p p1 p2).1, fun p p1 p2 => (all' p p1 p2).2⟩
theorem Seg.insert {r : Nat → Nat} {a b : Nat} {d : Array Nat} (hab : a ≤ b) (hb : b ≤ d.size) (h : ∀ k, a ≤ k → k < b → d[k]! = k) : PermIn a b d (insertionSort (ltR r) d a b) ∧ Seg r a b (insertionSort (ltR r) d a b) := by
  by_cases q : a = b
  · subst q
    have := insertionSort_holds (lt := ltR r) ⟨fun x => by simp [ltR], fun x y z h1 h2 => by simp only [ltR, decide_eq_true_eq] at *; omega, fun x y z h1 h2 => by simp only [ltR, decide_eq_false_iff_not] at *; omega⟩ d a a hab hb
    exact ⟨this.1, Seg.empty _ _ _⟩
  · rw [insertion_sameA r a b d (by omega) hb h]
    have hs := insertionSort_holds (lt := ahd r) (ahd_swo r) d a b hab hb
    have all := permIn_all d _ a b (fun x => a ≤ x ∧ x < b) hb hs.1 (fun p p1 p2 => by show a ≤ d[p]! ∧ _; rw [h p p1 p2]; exact ⟨p1, p2⟩)
    exact ⟨hs.1, ⟨hs.2, fun p p1 p2 => (all p p1 p2).1, fun p p1 p2 => (all p p1 p2).2⟩⟩
/-- The blocks of B places below a. -/
inductive Low (r : Nat → Nat) (B : Nat) (d : Array Nat) : Nat → Prop
  | zero : Low r B d 0
  | snoc {a : Nat} : Low r B d a → Seg r a (a + B) d → Low r B d (a + B)
/-- The blocks of B places from a to n. -/
inductive Blk (r : Nat → Nat) (B n : Nat) (d : Array Nat) : Nat → Prop
  | nil {a : Nat} : n ≤ a → Blk r B n d a
  | last {a : Nat} : a < n → n ≤ a + B → Seg r a n d → Blk r B n d a
  | cons {a : Nat} : a + B < n → Seg r a (a + B) d → Blk r B n d (a + B) → Blk r B n d a
theorem Low.congr {r : Nat → Nat} {B a : Nat} {d d' : Array Nat} (h : Low r B d a) : (∀ p, p < a → d'[p]! = d[p]!) → Low r B d' a := by
  induction h with
  | zero => exact fun _ => .zero
  | snoc hl hs ih => exact fun e => .snoc (ih fun p hp => e p (by omega)) (hs.congr fun p p1 p2 => e p p2)
theorem Blk.congr {r : Nat → Nat} {B n a : Nat} {d d' : Array Nat} (h : Blk r B n d a) : (∀ p, a ≤ p → d'[p]! = d[p]!) → Blk r B n d' a := by
  induction h with
  | nil h => exact fun _ => .nil h
  | last h1 h2 hs => exact fun e => .last h1 h2 (hs.congr fun p p1 p2 => e p p1)
  | cons h1 hs hb ih => exact fun e => .cons h1 (hs.congr fun p p1 p2 => e p p1) (ih fun p hp => e p (by omega))
theorem Low.blk {r : Nat → Nat} {B n a : Nat} {d : Array Nat} (h : Low r B d a) : a ≤ n → Blk r B n d a → Blk r B n d 0 := by
  induction h with
  | zero => exact fun _ h => h
  | @snoc a hl hs ih =>
    intro hn hb
    refine ih (by omega) ?_
    by_cases q : a + B < n
    · exact .cons q hs hb
    · obtain rfl : n = a + B := by omega
      by_cases q2 : a < a + B
      · exact .last q2 (Nat.le_refl _) hs
      · exact .nil (by omega)
/-- The state of a pass over the row. -/
structure Pass (r : Nat → Nat) (B n a : Nat) (d : Array Nat) : Prop where
  perm : PermIn 0 n (Array.range n) d
  an : a ≤ n
  low : Low r (2 * B) d a
  high : Blk r B n d a
namespace Pass
variable {r : Nat → Nat} {B n a : Nat} {d d' : Array Nat}
theorem size (h : Pass r B n a d) : d.size = n := h.perm.1.trans (by simp)
theorem lt (h : Pass r B n a d) : ∀ k, k < n → d[k]! < n := fun k hk =>
  permIn_all _ _ 0 n (fun x => x < n) (by simp) h.perm (fun p _ hp => by show (Array.range n)[p]! < n; rw [range_get hp]; exact hp) k (Nat.zero_le _) hk
theorem segs (h : Pass r B n a d) (hB : 0 < B) (hb : a + 2 * B ≤ n) : Seg r a (a + B) d ∧ Seg r (a + B) (a + 2 * B) d ∧ Blk r B n d (a + 2 * B) := by
  have e : a + 2 * B = a + B + B := by omega
  cases h.high with
  | nil q => omega
  | last q1 q2 hs => omega
  | cons q hs hk =>
    refine ⟨hs, ?_⟩
    rw [e]
    cases hk with
    | nil q => omega
    | last q1 q2 hs2 =>
      obtain rfl : n = a + B + B := by omega
      exact ⟨hs2, .nil (Nat.le_refl _)⟩
    | cons q hs2 hk2 => exact ⟨hs2, hk2⟩
theorem step_two (h : Pass r B n a d) (hB : 0 < B) (hb : a + 2 * B ≤ n) : Two (ahd r) (ltR r) a (a + B) (a + 2 * B) d :=
  have s := h.segs hB hb
  Seg.two s.1 s.2.1 (by omega) (by omega) (by rw [h.size]; exact hb)
theorem step (h : Pass r B n a d) (hB : 0 < B) (hb : a + 2 * B ≤ n) (hp : PermIn a (a + 2 * B) d d') (hs : SortedIn (ahd r) a (a + 2 * B) d') : Pass r B n (a + 2 * B) d' :=
  have s := h.segs hB hb
  have hz := h.size
  ⟨permIn_trans _ _ _ 0 n h.perm (permIn_mono d d' a (a + 2 * B) 0 n (Nat.zero_le _) hb (by omega) hp), hb,
    .snoc (h.low.congr fun p q => hp.2.1 p (.inl q)) (s.1.join s.2.1 (by omega) (by omega) (by omega) hp hs), s.2.2.congr fun p q => hp.2.1 p (.inr q)⟩
theorem tail_two (h : Pass r B n a d) (hB : 0 < B) (hb : n < a + 2 * B) (hm : a + B < n) : Seg r a (a + B) d ∧ Seg r (a + B) n d ∧ Two (ahd r) (ltR r) a (a + B) n d := by
  have s : Seg r a (a + B) d ∧ Seg r (a + B) n d := by
    cases h.high with
    | nil q => omega
    | last q1 q2 hs => omega
    | cons q hs hk =>
      refine ⟨hs, ?_⟩
      cases hk with
      | nil q => omega
      | last q1 q2 hs2 => exact hs2
      | cons q hs2 hk2 => omega
  exact ⟨s.1, s.2, Seg.two s.1 s.2 (by omega) hm (by rw [h.size]; exact Nat.le_refl _)⟩
/-- The blocks' length is doubled: the next pass begins. -/
theorem start (hp : PermIn 0 n (Array.range n) d) (hk : Blk r B n d 0) : Pass r B n 0 d := ⟨hp, Nat.zero_le _, .zero, hk⟩
theorem tail (h : Pass r B n a d) (hB : 0 < B) (hb : n < a + 2 * B) (hm : a + B < n) (hp : PermIn a n d d') (hs : SortedIn (ahd r) a n d') : Pass r (2 * B) n 0 d' :=
  have s := h.tail_two hB hb hm
  have hz := h.size
  start (permIn_trans _ _ _ 0 n h.perm (permIn_mono d d' a n 0 n (Nat.zero_le _) (Nat.le_refl _) (by omega) hp))
    ((h.low.congr fun p q => hp.2.1 p (.inl q)).blk h.an (.last (by omega) (by omega) (s.1.join s.2.1 (by omega) (by omega) (by omega) hp hs)))
theorem idle (h : Pass r B n a d) (hB : 0 < B) (hb : n < a + 2 * B) (hm : ¬ a + B < n) : Pass r (2 * B) n 0 d := by
  refine start h.perm (h.low.blk h.an ?_)
  cases h.high with
  | nil q => exact .nil q
  | last q1 q2 hs => exact .last q1 (by omega) hs
  | cons q hs hk => omega
theorem done (h : Pass r B n 0 d) (hB : n ≤ B) : Ord r n d := by
  refine ⟨h.perm, ?_⟩
  cases h.high with
  | nil q => exact fun i j h1 h2 h3 => by omega
  | last q1 q2 hs => exact hs.sort
  | cons q hs hk => omega
end Pass
/-- The first phase: the blocks below a are sorted, the rest lies untouched. -/
structure First (r : Nat → Nat) (B n a : Nat) (d : Array Nat) : Prop where
  perm : PermIn 0 n (Array.range n) d
  an : a ≤ n
  low : Low r B d a
  rest : ∀ k, a ≤ k → k < n → d[k]! = k
namespace First
variable {r : Nat → Nat} {B n a : Nat} {d : Array Nat}
theorem size (h : First r B n a d) : d.size = n := h.perm.1.trans (by simp)
theorem lt (h : First r B n a d) : ∀ k, k < d.size → d[k]! < n := fun k hk =>
  permIn_all _ _ 0 n (fun x => x < n) (by simp) h.perm (fun p _ hp => by show (Array.range n)[p]! < n; rw [range_get hp]; exact hp) k (Nat.zero_le _) (by rw [← h.size]; exact hk)
theorem start (r : Nat → Nat) (B n : Nat) : First r B n 0 (Array.range n) := ⟨permIn_refl _ _ _, Nat.zero_le _, .zero, fun k _ hk => range_get hk⟩
theorem step (h : First r B n a d) (hb : a + B ≤ n) : First r B n (a + B) (insertionSort (ltR r) d a (a + B)) := by
  have hz := h.size
  have s := Seg.insert (r := r) (a := a) (b := a + B) (d := d) (by omega) (by omega) (fun k k1 k2 => h.rest k k1 (by omega))
  exact ⟨permIn_trans _ _ _ 0 n h.perm (permIn_mono d _ a (a + B) 0 n (Nat.zero_le _) hb (by omega) s.1), hb, .snoc (h.low.congr fun p q => s.1.2.1 p (.inl q)) s.2, fun k k1 k2 => by rw [s.1.2.1 k (.inr k1)]; exact h.rest k (by omega) k2⟩
theorem tail (h : First r B n a d) (hb : n < a + B) : Pass r B n 0 (insertionSort (ltR r) d a n) := by
  have hz := h.size
  have s := Seg.insert (r := r) (a := a) (b := n) (d := d) h.an (by omega) (fun k k1 k2 => h.rest k k1 k2)
  refine Pass.start (permIn_trans _ _ _ 0 n h.perm (permIn_mono d _ a n 0 n (Nat.zero_le _) (Nat.le_refl _) (by omega) s.1)) ((h.low.congr fun p q => s.1.2.1 p (.inl q)).blk h.an ?_)
  by_cases q : a < n
  · exact .last q (by omega) s.2
  · exact .nil (by omega)
end First
end Go.Proofs.YtiegoffdbhmfbaaGreatDoor
