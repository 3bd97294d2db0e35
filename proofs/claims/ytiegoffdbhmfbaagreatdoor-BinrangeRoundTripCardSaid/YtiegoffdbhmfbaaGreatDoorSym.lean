/- Merging two sorted blocks in place (symMerge, rotate, swapRange): the plain law. No walk. -/
import Derived.Sort.LotA
namespace Go.Proofs.YtiegoffdbhmfbaaGreatDoor
set_option linter.unusedVariables false
open Go.Sort
section
variable {α : Type} [Inhabited α]

/-! ### swapRange -/
def swR (a b : Nat) : Nat → Array α → Array α
  | 0, d => d
  | i + 1, d => swp (swR a b i d) (a + i) (b + i)
def swI (a b n k : Nat) : Nat := if a ≤ k ∧ k < a + n then k + (b - a) else if b ≤ k ∧ k < b + n then k - (b - a) else k
theorem swR_size (a b : Nat) (d : Array α) : ∀ i, (swR a b i d).size = d.size
  | 0 => rfl
  | i + 1 => by rw [swR, swp_size, swR_size a b d i]
theorem swR_perm (lo hi a b : Nat) (d : Array α) (h1 : lo ≤ a) (h3 : hi ≤ d.size) : ∀ n, a + n ≤ b → b + n ≤ hi → PermIn lo hi d (swR a b n d)
  | 0, _, _ => permIn_refl d lo hi
  | n + 1, h, h' => by
    rw [swR]
    exact permIn_trans _ _ _ lo hi (swR_perm lo hi a b d h1 h3 n (by omega) (by omega)) (swp_permIn _ lo hi (a + n) (b + n) (by omega) (by omega) (by omega) (by omega) (by rw [swR_size]; exact h3))
theorem swR_get (a b : Nat) (d : Array α) : ∀ n, a + n ≤ b → b + n ≤ d.size → ∀ k, k < d.size → (swR a b n d)[k]! = d[swI a b n k]!
  | 0, _, _, k, _ => by
    unfold swI
    rw [if_neg (by omega), if_neg (by omega)]; rfl
  | n + 1, h, h', k, hk => by
    have ih := swR_get a b d n (by omega) (by omega)
    rw [swR, swp_get _ (by rw [swR_size]; omega) (by rw [swR_size]; omega)]
    rw [ih k hk, ih (a + n) (by omega), ih (b + n) (by omega)]
    have e1 : swI a b n (a + n) = a + n := by unfold swI; rw [if_neg (by omega), if_neg (by omega)]
    have e2 : swI a b n (b + n) = b + n := by unfold swI; rw [if_neg (by omega), if_neg (by omega)]
    rw [e1, e2]
    by_cases q2 : k = b + n
    · have : swI a b (n + 1) k = a + n ∨ (b = a ∧ n = 0) := by unfold swI; split; omega; rw [if_pos (by omega)]; omega
      rw [if_pos q2]
      rcases this with e | ⟨e, f⟩
      · rw [e]
      · omega
    · rw [if_neg q2]
      by_cases q1 : k = a + n
      · have : swI a b (n + 1) k = b + n := by unfold swI; rw [if_pos (by omega)]; omega
        rw [if_pos q1, this]
      · have : swI a b (n + 1) k = swI a b n k := by
          unfold swI
          by_cases q3 : a ≤ k ∧ k < a + n
          · rw [if_pos q3, if_pos (by omega)]
          · rw [if_neg q3, if_neg (show ¬ (a ≤ k ∧ k < a + (n + 1)) by omega)]
            by_cases q4 : b ≤ k ∧ k < b + n
            · rw [if_pos q4, if_pos (by omega)]
            · rw [if_neg q4, if_neg (by omega)]
        rw [if_neg q1, this]

/-! ### rotate -/
def rotI (a m b k : Nat) : Nat := if k < a ∨ b ≤ k then k else if k < a + (b - m) then k + (m - a) else k - (b - m)
structure Rot (d d' : Array α) (a m b : Nat) : Prop where
  perm : PermIn a b d d'
  get : ∀ k, k < d.size → d'[k]! = d[rotI a m b k]!
structure RotS (d : Array α) (a m b : Nat) (dk : Array α) (i j : Nat) : Prop where
  i0 : 0 < i
  j0 : 0 < j
  im : i ≤ m - a
  jm : j ≤ b - m
  perm : PermIn a b d dk
  get : ∀ k, k < d.size → dk[rotI (m - i) m (m + j) k]! = d[rotI a m b k]!
theorem Rot.refl_left (d : Array α) (m b : Nat) : Rot d d m m b := ⟨permIn_refl d m b, fun k hk => by
  congr 1; unfold rotI; split
  · rfl
  · split <;> omega⟩
theorem Rot.refl_right (d : Array α) (a m : Nat) : Rot d d a m m := ⟨permIn_refl d a m, fun k hk => by
  congr 1; unfold rotI; split
  · rfl
  · split <;> omega⟩
theorem RotS.start (d : Array α) {a m b : Nat} (h1 : a < m) (h2 : m < b) : RotS d a m b d (m - a) (b - m) := by
  refine ⟨by omega, by omega, Nat.le_refl _, Nat.le_refl _, permIn_refl d a b, fun k hk => ?_⟩
  rw [show m - (m - a) = a by omega, show m + (b - m) = b by omega]
theorem RotS.gt {d dk : Array α} {a m b i j : Nat} (h : RotS d a m b dk i j) (hm : a ≤ m) (hmb : m ≤ b) (hb : b ≤ d.size) (hij : j < i) : RotS d a m b (swR (m - i) m j dk) (i - j) j := by
  have i0 := h.i0; have j0 := h.j0; have im := h.im; have jm := h.jm
  have hsz : dk.size = d.size := h.perm.1
  refine ⟨by omega, j0, by omega, jm, permIn_trans _ _ _ a b h.perm (swR_perm a b _ _ dk (by omega) (by omega) j (by omega) (by omega)), fun k hk => ?_⟩
  rw [← h.get k hk]
  have hr : rotI (m - (i - j)) m (m + j) k < d.size := by unfold rotI; split; omega; split <;> omega
  rw [swR_get _ _ dk j (by omega) (by omega) _ (by omega)]
  congr 1
  unfold rotI swI
  repeat' split
  all_goals omega
theorem RotS.lt {d dk : Array α} {a m b i j : Nat} (h : RotS d a m b dk i j) (hm : a ≤ m) (hmb : m ≤ b) (hb : b ≤ d.size) (hij : i < j) : RotS d a m b (swR (m - i) (m + j - i) i dk) i (j - i) := by
  have i0 := h.i0; have j0 := h.j0; have im := h.im; have jm := h.jm
  have hsz : dk.size = d.size := h.perm.1
  refine ⟨i0, by omega, im, by omega, permIn_trans _ _ _ a b h.perm (swR_perm a b _ _ dk (by omega) (by omega) i (by omega) (by omega)), fun k hk => ?_⟩
  rw [← h.get k hk]
  have hr : rotI (m - i) m (m + (j - i)) k < d.size := by unfold rotI; split; omega; split <;> omega
  rw [swR_get _ _ dk i (by omega) (by omega) _ (by omega)]
  congr 1
  unfold rotI swI
  repeat' split
  all_goals omega
theorem RotS.eq {d dk : Array α} {a m b i : Nat} (h : RotS d a m b dk i i) (hm : a ≤ m) (hmb : m ≤ b) (hb : b ≤ d.size) : Rot d (swR (m - i) m i dk) a m b := by
  have i0 := h.i0; have im := h.im; have jm := h.jm
  have hsz : dk.size = d.size := h.perm.1
  refine ⟨permIn_trans _ _ _ a b h.perm (swR_perm a b _ _ dk (by omega) (by omega) i (by omega) (by omega)), fun k hk => ?_⟩
  rw [← h.get k hk, swR_get _ _ dk i (by omega) (by omega) _ (by omega)]
  congr 1
  unfold rotI swI
  repeat' split
  all_goals omega

/-! ### The moves by single swaps -/
def shl (a : Nat) : Nat → Array α → Array α
  | 0, d => d
  | t + 1, d => swp (shl a t d) (a + t) (a + t + 1)
theorem shl_size (a : Nat) (d : Array α) : ∀ t, (shl a t d).size = d.size
  | 0 => rfl
  | t + 1 => by rw [shl, swp_size, shl_size a d t]
theorem shl_perm (lo hi a : Nat) (d : Array α) (h1 : lo ≤ a) (h3 : hi ≤ d.size) : ∀ t, a + t < hi → PermIn lo hi d (shl a t d)
  | 0, _ => permIn_refl d lo hi
  | t + 1, h => by
    rw [shl]
    exact permIn_trans _ _ _ lo hi (shl_perm lo hi a d h1 h3 t (by omega)) (swp_permIn _ lo hi (a + t) (a + t + 1) (by omega) (by omega) (by omega) (by omega) (by rw [shl_size]; exact h3))
theorem shl_get (a : Nat) (d : Array α) : ∀ t, a + t < d.size → ∀ k, (shl a t d)[k]! = if a ≤ k ∧ k < a + t then d[k + 1]! else if k = a + t then d[a]! else d[k]!
  | 0, h, k => by
    rw [shl, if_neg (by omega)]
    split
    · congr 1
    · rfl
  | t + 1, h, k => by
    have ih := shl_get a d t (by omega)
    rw [shl, swp_get _ (by rw [shl_size]; omega) (by rw [shl_size]; omega), ih k, ih (a + t), ih (a + t + 1)]
    rw [if_neg (show ¬ (a ≤ a + t + 1 ∧ a + t + 1 < a + t) by omega), if_neg (show ¬ (a + t + 1 = a + t) by omega), if_neg (show ¬ (a ≤ a + t ∧ a + t < a + t) by omega), if_pos rfl]
    by_cases q2 : k = a + t + 1
    · rw [if_pos q2, if_neg (by omega), if_pos (by omega)]
    · rw [if_neg q2]
      by_cases q1 : k = a + t
      · subst q1
        rw [if_pos rfl, if_pos (by omega)]
      · rw [if_neg q1]
        by_cases q3 : a ≤ k ∧ k < a + t
        · rw [if_pos q3, if_pos (by omega)]
        · rw [if_neg q3, if_neg q1, if_neg (by omega), if_neg (by omega)]
def shr (m : Nat) : Nat → Array α → Array α
  | 0, d => d
  | t + 1, d => swp (shr m t d) (m - t) (m - t - 1)
theorem shr_size (m : Nat) (d : Array α) : ∀ t, (shr m t d).size = d.size
  | 0 => rfl
  | t + 1 => by rw [shr, swp_size, shr_size m d t]
theorem shr_perm (lo hi m : Nat) (d : Array α) (h1 : m < hi) (h3 : hi ≤ d.size) : ∀ t, lo + t ≤ m → PermIn lo hi d (shr m t d)
  | 0, _ => permIn_refl d lo hi
  | t + 1, h => by
    rw [shr]
    exact permIn_trans _ _ _ lo hi (shr_perm lo hi m d h1 h3 t (by omega)) (swp_permIn _ lo hi (m - t) (m - t - 1) (by omega) (by omega) (by omega) (by omega) (by rw [shr_size]; exact h3))
theorem shr_get (m : Nat) (d : Array α) (hm : m < d.size) : ∀ t, t ≤ m → ∀ k, (shr m t d)[k]! = if m - t < k ∧ k ≤ m then d[k - 1]! else if k = m - t then d[m]! else d[k]!
  | 0, h, k => by
    rw [shr, if_neg (by omega)]
    split
    · congr 1
    · rfl
  | t + 1, h, k => by
    have ih := shr_get m d hm t (by omega)
    rw [shr, swp_get _ (by rw [shr_size]; omega) (by rw [shr_size]; omega), ih k, ih (m - t), ih (m - t - 1)]
    rw [if_neg (show ¬ (m - t < m - t - 1 ∧ m - t - 1 ≤ m) by omega), if_neg (show ¬ (m - t - 1 = m - t) by omega), if_neg (show ¬ (m - t < m - t ∧ m - t ≤ m) by omega), if_pos rfl]
    by_cases q2 : k = m - t - 1
    · rw [if_pos q2, if_neg (by omega), if_pos (by omega)]
    · rw [if_neg q2]
      by_cases q1 : k = m - t
      · subst q1
        rw [if_pos rfl, if_pos (by omega)]
      · rw [if_neg q1]
        by_cases q3 : m - t < k ∧ k ≤ m
        · rw [if_pos q3, if_pos (by omega)]
        · rw [if_neg q3, if_neg q1, if_neg (by omega), if_neg (by omega)]

/-! ### The search -/
structure Bis (P : Nat → Bool) (s0 r0 s r : Nat) : Prop where
  lo : s0 ≤ s
  le : s ≤ r
  hi : r ≤ r0
  f : ∀ c, s0 ≤ c → c < s → P c = false
  t : ∀ c, r ≤ c → c < r0 → P c = true
def MonoP (P : Nat → Bool) (s0 r0 : Nat) : Prop := ∀ c c', s0 ≤ c → c ≤ c' → c' < r0 → P c = true → P c' = true
theorem Bis.start (P : Nat → Bool) {s0 r0 : Nat} (h : s0 ≤ r0) : Bis P s0 r0 s0 r0 := ⟨Nat.le_refl _, h, Nat.le_refl _, fun c h1 h2 => by omega, fun c h1 h2 => by omega⟩
theorem Bis.up {P : Nat → Bool} {s0 r0 s r : Nat} (h : Bis P s0 r0 s r) (hM : MonoP P s0 r0) (hlt : s < r) (hP : P ((s + r) / 2) = false) : Bis P s0 r0 ((s + r) / 2 + 1) r := by
  have h1 := h.lo; have h2 := h.hi
  refine ⟨by omega, by omega, h2, fun c c1 c2 => ?_, h.t⟩
  cases q : P c
  · rfl
  · rw [hM c ((s + r) / 2) c1 (by omega) (by omega) q] at hP; exact hP
theorem Bis.down {P : Nat → Bool} {s0 r0 s r : Nat} (h : Bis P s0 r0 s r) (hM : MonoP P s0 r0) (hlt : s < r) (hP : P ((s + r) / 2) = true) : Bis P s0 r0 s ((s + r) / 2) := by
  have h1 := h.lo; have h2 := h.hi
  exact ⟨h1, by omega, by omega, h.f, fun c c1 c2 => hM ((s + r) / 2) c (by omega) c1 c2 hP⟩

/-! ### The merge -/
variable {lt ltC : α → α → Bool}
def CrossI (lt ltC : α → α → Bool) (a m b : Nat) (d : Array α) : Prop := ∀ i j, a ≤ i → i < m → m ≤ j → j < b → ltC d[j]! d[i]! = lt d[j]! d[i]!
structure Two (lt ltC : α → α → Bool) (a m b : Nat) (d : Array α) : Prop where
  am : a < m
  mb : m < b
  bs : b ≤ d.size
  left : SortedIn lt a m d
  right : SortedIn lt m b d
  cross : CrossI lt ltC a m b d
theorem sorted_le (hS : SWO lt) {a b : Nat} {d : Array α} (h : SortedIn lt a b d) {i j : Nat} (h1 : a ≤ i) (h2 : i ≤ j) (h3 : j < b) : lt d[j]! d[i]! = false := by
  rcases Nat.lt_or_ge i j with q | q
  · exact h i j h1 q h3
  · have : i = j := by omega
    subst this; exact hS.irrefl _
omit [Inhabited α] in
/-- x < y ≤ z gives x < z; x ≤ y < z gives x < z. -/
theorem swo_lt_le (hS : SWO lt) {x y z : α} (h1 : lt x y = true) (h2 : lt z y = false) : lt x z = true := by
  cases q : lt x z
  · rw [hS.ntrans x z y q h2] at h1; exact h1
  · rfl
omit [Inhabited α] in
theorem swo_le_lt (hS : SWO lt) {x y z : α} (h1 : lt y x = false) (h2 : lt y z = true) : lt x z = true := by
  cases q : lt x z
  · rw [hS.ntrans y x z h1 q] at h2; exact h2
  · rfl
theorem Two.mono_left (hS : SWO lt) {a m b : Nat} {d : Array α} (h : Two lt ltC a m b d) : MonoP (fun c => !lt d[c]! d[a]!) m b := by
  intro c c' h1 h2 h3 hP
  simp only [Bool.not_eq_true'] at *
  exact hS.ntrans _ _ _ (sorted_le hS h.right h1 h2 h3) hP
theorem Two.mono_right (hS : SWO lt) {a m b : Nat} {d : Array α} (h : Two lt ltC a m b d) : MonoP (fun c => lt d[m]! d[c]!) a m := by
  intro c c' h1 h2 h3 hP
  exact swo_lt_le hS hP (sorted_le hS h.left h1 h2 h3)
theorem merge_left (hS : SWO lt) {a b i : Nat} {d : Array α} (h : Two lt ltC a (a + 1) b d) (hb : Bis (fun c => !lt d[c]! d[a]!) (a + 1) b i i) : PermIn a b d (shl a (i - 1 - a) d) ∧ SortedIn lt a b (shl a (i - 1 - a) d) := by
  have h1 := hb.lo; have h2 := hb.hi; have hsz := h.bs
  refine ⟨shl_perm a b a d (Nat.le_refl _) hsz _ (by omega), fun p q hp hpq hq => ?_⟩
  rw [shl_get a d _ (by omega) p, shl_get a d _ (by omega) q]
  have hf : ∀ c, a + 1 ≤ c → c < i → lt d[a]! d[c]! = false := fun c c1 c2 => by
    have := hb.f c c1 c2
    simp only [Bool.not_eq_false'] at this
    exact hS.asymmA this
  have ht : ∀ c, i ≤ c → c < b → lt d[c]! d[a]! = false := fun c c1 c2 => by
    have := hb.t c c1 c2
    simpa using this
  have hr : ∀ x y, a + 1 ≤ x → x ≤ y → y < b → lt d[y]! d[x]! = false := fun x y => sorted_le hS h.right
  by_cases p1 : a ≤ p ∧ p < a + (i - 1 - a)
  · rw [if_pos p1]
    by_cases q1 : a ≤ q ∧ q < a + (i - 1 - a)
    · rw [if_pos q1]; exact hr _ _ (by omega) (by omega) (by omega)
    · rw [if_neg q1]
      by_cases q2 : q = a + (i - 1 - a)
      · rw [if_pos q2]; exact hf _ (by omega) (by omega)
      · rw [if_neg q2]; exact hr _ _ (by omega) (by omega) (by omega)
  · rw [if_neg p1]
    by_cases p2 : p = a + (i - 1 - a)
    · rw [if_pos p2, if_neg (by omega), if_neg (by omega)]; exact ht _ (by omega) (by omega)
    · rw [if_neg p2, if_neg (by omega), if_neg (by omega)]; exact hr _ _ (by omega) (by omega) (by omega)
theorem merge_right (hS : SWO lt) {a m i : Nat} {d : Array α} (h : Two lt ltC a m (m + 1) d) (hb : Bis (fun c => lt d[m]! d[c]!) a m i i) : PermIn a (m + 1) d (shr m (m - i) d) ∧ SortedIn lt a (m + 1) (shr m (m - i) d) := by
  have h1 := hb.lo; have h2 := hb.hi; have hsz := h.bs
  refine ⟨shr_perm a (m + 1) m d (by omega) hsz _ (by omega), fun p q hp hpq hq => ?_⟩
  rw [shr_get m d (by omega) _ (by omega) p, shr_get m d (by omega) _ (by omega) q]
  have hf : ∀ c, a ≤ c → c < i → lt d[m]! d[c]! = false := hb.f
  have ht : ∀ c, i ≤ c → c < m → lt d[c]! d[m]! = false := fun c c1 c2 => hS.asymmA (hb.t c c1 c2)
  have hr : ∀ x y, a ≤ x → x ≤ y → y < m → lt d[y]! d[x]! = false := fun x y => sorted_le hS h.left
  have e : m - (m - i) = i := by omega
  rw [e]
  by_cases q1 : i < q ∧ q ≤ m
  · rw [if_pos q1]
    by_cases p1 : i < p ∧ p ≤ m
    · rw [if_pos p1]; exact hr _ _ (by omega) (by omega) (by omega)
    · rw [if_neg p1]
      by_cases p2 : p = i
      · rw [if_pos p2]; exact ht _ (by omega) (by omega)
      · rw [if_neg p2]; exact hr _ _ (by omega) (by omega) (by omega)
  · rw [if_neg q1]
    by_cases q2 : q = i
    · rw [if_pos q2, if_neg (by omega), if_neg (by omega)]; exact hf _ (by omega) (by omega)
    · rw [if_neg q2, if_neg (by omega), if_neg (by omega)]; exact hr _ _ (by omega) (by omega) (by omega)
/-- Where the search begins and ends. -/
def s0Of (a m b : Nat) : Nat := if (a + b) / 2 < m then (a + b) / 2 + m - b else a
def r0Of (a m b : Nat) : Nat := if (a + b) / 2 < m then (a + b) / 2 else m
theorem s0_facts {a m b : Nat} (h1 : a < m) (h2 : m < b) : a ≤ s0Of a m b ∧ s0Of a m b ≤ r0Of a m b ∧ r0Of a m b ≤ m ∧ r0Of a m b ≤ (a + b) / 2 := by
  unfold s0Of r0Of
  split <;> omega
theorem Two.mono_sym (hS : SWO lt) {a m b : Nat} {d : Array α} (h : Two lt ltC a m b d) : MonoP (fun c => lt d[(a + b) / 2 + m - 1 - c]! d[c]!) (s0Of a m b) (r0Of a m b) := by
  intro c c' h1 h2 h3 hP
  have am := h.am; have mb := h.mb
  have hf := s0_facts am mb
  have hc : (a + b) / 2 + m - 1 - c < b := by unfold s0Of at h1; split at h1 <;> omega
  have hP1 := swo_lt_le hS hP (sorted_le hS h.left (by omega) h2 (by omega))
  refine swo_le_lt hS (y := d[(a + b) / 2 + m - 1 - c]!) ?_ hP1
  exact sorted_le hS h.right (by omega) (by omega) hc
/-- What stands behind the rotation. -/
structure Cut (lt ltC : α → α → Bool) (a s mid e b : Nat) (d d1 : Array α) : Prop where
  perm : PermIn a b d d1
  s1 : SortedIn lt a s d1
  s2 : SortedIn lt s mid d1
  s3 : SortedIn lt mid e d1
  s4 : SortedIn lt e b d1
  c1 : CrossI lt ltC a s mid d1
  c2 : CrossI lt ltC mid e b d1
  low : ∀ i j, a ≤ i → i < mid → mid ≤ j → j < b → lt d1[j]! d1[i]! = false
theorem sym_cut (hS : SWO lt) {a m b s : Nat} {d d1 : Array α} (h : Two lt ltC a m b d) (hb : Bis (fun c => lt d[(a + b) / 2 + m - 1 - c]! d[c]!) (s0Of a m b) (r0Of a m b) s s) (hr : Rot d d1 s m ((a + b) / 2 + m - s)) :
    Cut lt ltC a s ((a + b) / 2) ((a + b) / 2 + m - s) b d d1 := by
  have am := h.am; have mb := h.mb; have bs := h.bs
  obtain ⟨z1, z2, z3, z4⟩ := s0_facts am mb
  have l1 := hb.lo; have l2 := hb.hi
  have hL : ∀ x y, a ≤ x → x ≤ y → y < m → lt d[y]! d[x]! = false := fun x y => sorted_le hS h.left
  have hR : ∀ x y, m ≤ x → x ≤ y → y < b → lt d[y]! d[x]! = false := fun x y => sorted_le hS h.right
  have hse : (a + b) / 2 + m - s ≤ b := by
    unfold s0Of at l1; split at l1 <;> omega
  have ge : ∀ k, k < b → d1[k]! = d[rotI s m ((a + b) / 2 + m - s) k]! := fun k hk => hr.get k (by omega)
  -- L1 is not above R2
  have A : ∀ i j, a ≤ i → i < s → (a + b) / 2 + m - s ≤ j → j < b → lt d[j]! d[i]! = false := by
    intro i j i1 i2 j1 j2
    by_cases q : s0Of a m b < s
    · have := hb.f (s - 1) (by omega) (by omega)
      rw [show (a + b) / 2 + m - 1 - (s - 1) = (a + b) / 2 + m - s by omega] at this
      refine hS.ntrans _ _ _ (hR ((a + b) / 2 + m - s) j (by omega) j1 j2) (hS.ntrans _ _ _ this (hL i (s - 1) i1 (by omega) (by omega)))
    · exfalso
      have : s = s0Of a m b := by omega
      unfold s0Of at this
      split at this <;> omega
  -- R1 is not above L2
  have B : ∀ i j, s ≤ i → i < m → m ≤ j → j < (a + b) / 2 + m - s → lt d[i]! d[j]! = false := by
    intro i j i1 i2 j1 j2
    by_cases q : s < r0Of a m b
    · have := hb.t s (Nat.le_refl _) q
      refine hS.ntrans _ _ _ (hL s i (by omega) i1 i2) (hS.ntrans _ _ _ (hS.asymmA this) (hR j _ j1 (by omega) (by omega)))
    · exfalso
      have : s = r0Of a m b := by omega
      unfold r0Of at this
      split at this <;> omega
  have hmid : s ≤ (a + b) / 2 := by omega
  have hme : m ≤ (a + b) / 2 + m - s := by omega
  have hab : (a + b) / 2 < b ∧ a ≤ (a + b) / 2 := by omega
  generalize (a + b) / 2 = mid at *
  generalize he : mid + m - s = e at *
  -- where each place was
  have g1 : ∀ k, a ≤ k → k < s → d1[k]! = d[k]! := fun k k1 k2 => by
    rw [ge k (by omega)]; congr 1; unfold rotI; rw [if_pos (by omega)]
  have g2 : ∀ k, s ≤ k → k < mid → d1[k]! = d[k + (m - s)]! := fun k k1 k2 => by
    rw [ge k (by omega)]; congr 1; unfold rotI; rw [if_neg (by omega), if_pos (by omega)]
  have g3 : ∀ k, mid ≤ k → k < e → d1[k]! = d[k - (e - m)]! := fun k k1 k2 => by
    rw [ge k (by omega)]; congr 1; unfold rotI; rw [if_neg (by omega), if_neg (by omega)]
  have g4 : ∀ k, e ≤ k → k < b → d1[k]! = d[k]! := fun k k1 k2 => by
    rw [ge k (by omega)]; congr 1; unfold rotI; rw [if_pos (by omega)]
  refine ⟨?_, ?_, ?_, ?_, ?_, ?_, ?_, ?_⟩
  · exact permIn_mono d d1 s e a b (by omega) hse bs hr.perm
  · intro i j i1 ij j2
    rw [g1 i i1 (by omega), g1 j (by omega) j2]; exact hL i j i1 (by omega) (by omega)
  · intro i j i1 ij j2
    rw [g2 i i1 (by omega), g2 j (by omega) j2]; exact hR _ _ (by omega) (by omega) (by omega)
  · intro i j i1 ij j2
    rw [g3 i i1 (by omega), g3 j (by omega) j2]; exact hL _ _ (by omega) (by omega) (by omega)
  · intro i j i1 ij j2
    rw [g4 i i1 (by omega), g4 j (by omega) j2]; exact hR _ _ (by omega) (by omega) (by omega)
  · intro i j i1 i2 j1 j2
    rw [g1 i i1 i2, g2 j j1 j2]; exact h.cross _ _ i1 (by omega) (by omega) (by omega)
  · intro i j i1 i2 j1 j2
    rw [g3 i i1 i2, g4 j j1 j2]; exact h.cross _ _ (by omega) (by omega) (by omega) (by omega)
  · intro i j i1 i2 j1 j2
    by_cases p : i < s
    · rw [g1 i i1 p]
      by_cases q : j < e
      · rw [g3 j j1 q]; exact hL _ _ i1 (by omega) (by omega)
      · rw [g4 j (by omega) j2]; exact A _ _ i1 p (by omega) j2
    · rw [g2 i (by omega) i2]
      by_cases q : j < e
      · rw [g3 j j1 q]; exact B _ _ (by omega) (by omega) (by omega) (by omega)
      · rw [g4 j (by omega) j2]; exact hR _ _ (by omega) (by omega) (by omega)
/-- The two halves, sorted each by itself. -/
theorem Cut.join {a s mid e b : Nat} {d d1 d2 d3 : Array α} (h : Cut lt ltC a s mid e b d d1) (h1 : a ≤ mid) (h2 : mid ≤ b) (hb : b ≤ d.size) (p1 : PermIn a mid d1 d2) (q1 : SortedIn lt a mid d2) (p2 : PermIn mid b d2 d3) (q2 : SortedIn lt mid b d3) :
    PermIn a b d d3 ∧ SortedIn lt a b d3 := by
  have z1 : d1.size = d.size := h.perm.1
  have z2 : d2.size = d.size := p1.1.trans z1
  have P12 := permIn_mono d1 d2 a mid a b (Nat.le_refl _) h2 (by omega) p1
  have P23 := permIn_mono d2 d3 mid b a b h1 (Nat.le_refl _) (by omega) p2
  refine ⟨permIn_trans _ _ _ a b (permIn_trans _ _ _ a b h.perm P12) P23, fun i j i1 ij j2 => ?_⟩
  have keepL : ∀ k, k < mid → d3[k]! = d2[k]! := fun k hk => p2.2.1 k (Or.inl hk)
  have keepR : ∀ k, mid ≤ k → d2[k]! = d1[k]! := fun k hk => p1.2.1 k (Or.inr hk)
  rcases Nat.lt_or_ge j mid with x | x
  · rw [keepL i (by omega), keepL j x]; exact q1 i j i1 ij x
  · rcases Nat.lt_or_ge i mid with y | y
    · rw [keepL i y]
      have h3 : ∀ k, a ≤ k → k < mid → ∀ l, mid ≤ l → l < b → lt d2[l]! d2[k]! = false := by
        intro k k1 k2 l l1 l2
        rw [keepR l l1]
        exact permIn_all d1 d2 a mid (fun x => lt d1[l]! x = false) (by omega) p1 (fun p pa pm => h.low p l pa pm l1 l2) k k1 k2
      exact permIn_all d2 d3 mid b (fun x => lt x d2[i]! = false) (by omega) p2 (fun p pa pm => h3 i i1 y p pa pm) j x j2
    · exact q2 i j y ij j2
theorem Cut.two1 {a s mid e b : Nat} {d d1 : Array α} (h : Cut lt ltC a s mid e b d d1) (h1 : a < s) (h2 : s < mid) (h3 : mid ≤ b) (hb : b ≤ d.size) : Two lt ltC a s mid d1 :=
  ⟨h1, h2, by have := h.perm.1; omega, h.s1, h.s2, h.c1⟩
theorem Cut.two2 {a s mid e b : Nat} {d d1 d2 : Array α} (h : Cut lt ltC a s mid e b d d1) (p : PermIn a mid d1 d2) (h1 : mid < e) (h2 : e < b) (hb : b ≤ d.size) : Two lt ltC mid e b d2 := by
  have k : ∀ l, mid ≤ l → d2[l]! = d1[l]! := fun l hl => p.2.1 l (Or.inr hl)
  refine ⟨h1, h2, by have := h.perm.1; have := p.1; omega, fun i j i1 ij j2 => ?_, fun i j i1 ij j2 => ?_, fun i j i1 i2 j1 j2 => ?_⟩
  · rw [k i i1, k j (by omega)]; exact h.s3 i j i1 ij j2
  · rw [k i (by omega), k j (by omega)]; exact h.s4 i j i1 ij j2
  · rw [k i i1, k j (by omega)]; exact h.c2 i j i1 i2 j1 j2
end
end Go.Proofs.YtiegoffdbhmfbaaGreatDoor
