/- Joining ranges, plain: tables stay valid and lead to the same issuers; the stable order. No walk. -/
import Derived.Test.YtiegoffdbhmfbaaGreatDoorTab
import Derived.Test.YtiegoffdbhmfbaaGreatDoorDel
namespace Go.Proofs.YtiegoffdbhmfbaaGreatDoor
set_option linter.unusedVariables false

theorem folB_iff {a b : Rg} : folB a b = true ↔ a.lo.size = b.lo.size ∧ a.is = b.is ∧ a.pr = b.pr ∧ valS b.lo = valS a.hi + 1 := by
  unfold folB
  simp only [Bool.and_eq_true, decide_eq_true_eq]
def joined (a b : Rg) : Rg := { a with hi := b.hi }
def Joins (l l' : List Rg) : Prop := ∃ i k, i < l.length ∧ k < l.length ∧ folB (rgAt l i) (rgAt l k) = true ∧ l' = (setHi l i (rgAt l k).hi).eraseIdx k
theorem perm_at : ∀ (l : List Rg) (i : Nat) (h : i < l.length), l.Perm (l[i] :: l.eraseIdx i)
  | x :: l, 0, _ => List.Perm.refl _
  | x :: l, i + 1, h => by
    have := (perm_at l i (by simpa using h)).cons x
    exact this.trans (List.Perm.swap _ _ _)
theorem perm_set (l : List Rg) (i : Nat) (h : i < l.length) (x : Rg) : (l.set i x).Perm (x :: l.eraseIdx i) := by
  have h1 : i < (l.set i x).length := by simpa using h
  have := perm_at _ _ h1
  rw [List.getElem_set_self, List.eraseIdx_set_eq] at this
  exact this
theorem joins_split {l l' : List Rg} (hl : ∀ r ∈ l, Good r) (h : Joins l l') : ∃ a b rest, folB a b = true ∧ l.Perm (a :: b :: rest) ∧ l'.Perm (joined a b :: rest) := by
  obtain ⟨i, k, hi, hk, hf, rfl⟩ := h
  have hne : i ≠ k := by
    rintro rfl
    have := (folB_iff.1 hf).2.2.2
    have hg := hl _ (List.getElem_mem hi)
    rw [rgAt_get l i hi] at this
    have := hg.le
    omega
  refine ⟨rgAt l i, rgAt l k, (l.eraseIdx i).eraseIdx (if i < k then k - 1 else k), hf, ?_, ?_⟩
  · have p1 := perm_at _ _ hi
    have hk2 : (if i < k then k - 1 else k) < (l.eraseIdx i).length := by rw [List.length_eraseIdx_of_lt hi]; split <;> omega
    have p2 := perm_at _ _ hk2
    have e : (l.eraseIdx i)[if i < k then k - 1 else k] = l[k] := by
      by_cases q : i < k
      · simp only [if_pos q]
        rw [List.getElem_eraseIdx_of_ge (h' := by omega)]
        congr 1; omega
      · simp only [if_neg q]
        rw [List.getElem_eraseIdx_of_lt (h' := by omega)]
    rw [e] at p2
    rw [rgAt_get l i hi, rgAt_get l k hk]
    exact p1.trans (p2.cons _)
  · unfold setHi
    have hk1 : k < (l.set i { rgAt l i with hi := (rgAt l k).hi }).length := by simpa using hk
    have p1 := (perm_at _ _ hk1).symm
    rw [List.getElem_set_ne hne] at p1
    have p2 := perm_set l i hi { rgAt l i with hi := (rgAt l k).hi }
    have hk2 : (if i < k then k - 1 else k) < (l.eraseIdx i).length := by rw [List.length_eraseIdx_of_lt hi]; split <;> omega
    have p3 := perm_at _ _ hk2
    have e : (l.eraseIdx i)[if i < k then k - 1 else k] = l[k] := by
      by_cases q : i < k
      · simp only [if_pos q]
        rw [List.getElem_eraseIdx_of_ge (h' := by omega)]
        congr 1; omega
      · simp only [if_neg q]
        rw [List.getElem_eraseIdx_of_lt (h' := by omega)]
    rw [e] at p3
    have p4 := (p1.trans p2).trans ((p3.cons _).trans (List.Perm.swap _ _ _))
    exact p4.cons_inv
theorem joined_good {a b : Rg} (ha : Good a) (hb : Good b) (h : folB a b = true) : Good (joined a b) := by
  obtain ⟨h1, h2, h3, h4⟩ := folB_iff.1 h
  have e1 := ha.le; have e2 := hb.le; have e3 := hb.sz
  refine ⟨ha.dlo, hb.dhi, ha.one, ha.ten, ?_, ?_, ha.nis, ha.npr⟩
  · show b.hi.size = a.lo.size; omega
  · show valS a.lo ≤ valS b.hi; omega
theorem joins_ok {l l' : List Rg} (hl : TabOK l) (h : Joins l l') : TabOK l' ∧ l'.length + 1 = l.length := by
  obtain ⟨a, b, rest, hf, p, q⟩ := joins_split hl.good h
  have h1 := hl.perm p
  have ha := h1.good a (by simp)
  have hb := h1.good b (by simp)
  obtain ⟨f1, f2, f3, f4⟩ := folB_iff.1 hf
  have hlen : l'.length + 1 = l.length := by rw [q.length_eq, p.length_eq]; simp
  have hpw := h1.apart
  rw [List.pairwise_cons, List.pairwise_cons] at hpw
  have h2 : TabOK (joined a b :: rest) := by
    refine ⟨by have := hl.len; rw [← q.length_eq]; omega, fun r hr => ?_, ?_⟩
    · rcases List.mem_cons.1 hr with rfl | hr
      · exact joined_good ha hb hf
      · exact h1.good r (by simp [hr])
    · rw [List.pairwise_cons]
      refine ⟨fun c hc => ?_, hpw.2.2⟩
      intro e
      have e1 : a.lo.size = c.lo.size := e
      have k1 := hpw.1 c (by simp [hc]) e1
      have k2 := hpw.2.1 c hc (f1.symm.trans e1)
      have gc := (h1.good c (by simp [hc])).le
      have ga := ha.le
      have gb := hb.le
      show valS b.hi < valS c.lo ∨ valS c.hi < valS a.lo
      omega
  exact ⟨h2.perm q.symm, hlen⟩
/-- Some range of a length contains a number and leads to an issuer and a product. -/
def Sem (l : List Rg) (s : ByteArray) (n : Nat) (is pr : ByteArray) : Prop := ∃ r ∈ l, r.lo.size = n ∧ wiB s r.lo r.hi = true ∧ r.is = is ∧ r.pr = pr
theorem Sem.perm {l m : List Rg} (p : l.Perm m) {s : ByteArray} {n : Nat} {is pr : ByteArray} : Sem l s n is pr ↔ Sem m s n is pr :=
  ⟨fun ⟨r, h, q⟩ => ⟨r, p.mem_iff.1 h, q⟩, fun ⟨r, h, q⟩ => ⟨r, p.mem_iff.2 h, q⟩⟩
theorem ext_size (s : ByteArray) (n : Nat) (h : n ≤ s.size) : (s.extract 0 n).size = n := by rw [ByteArray.size_extract]; omega
theorem ext_dig {s : ByteArray} (h : digsB s = true) (n : Nat) : digsB (s.extract 0 n) = true := by
  unfold digsB at *
  rw [List.all_eq_true] at *
  intro b hb
  refine h b ?_
  rw [ByteArray.data_extract] at hb
  have hb' : b ∈ s.data.toList.take n := by simpa using hb
  exact List.mem_of_mem_take hb'
theorem wi_val {s : ByteArray} {r : Rg} (hr : Good r) : wiB s r.lo r.hi = true ↔ r.lo.size ≤ s.size ∧ digsB s = true ∧ valS r.lo ≤ valS (s.extract 0 r.lo.size) ∧ valS (s.extract 0 r.lo.size) ≤ valS r.hi := by
  unfold wiB
  have h1 := hr.sz; have h2 := hr.one
  by_cases hs : r.lo.size ≤ s.size
  · by_cases hd : digsB s = true
    · have hz := ext_size s _ hs
      have hx := ext_dig hd r.lo.size
      rw [leS_val hr.dlo hx hz.symm, leS_val hx hr.dhi (by omega)]
      simp [h1, h2, hs, hd, hr.dlo, hr.dhi]
    · simp [hd]
  · simp [hs]
theorem joins_sem {l l' : List Rg} (hl : TabOK l) (h : Joins l l') (s : ByteArray) (n : Nat) (is pr : ByteArray) : Sem l s n is pr ↔ Sem l' s n is pr := by
  obtain ⟨a, b, rest, hf, p, q⟩ := joins_split hl.good h
  have h1 := hl.perm p
  have ha := h1.good a (by simp)
  have hb := h1.good b (by simp)
  have hj := joined_good ha hb hf
  obtain ⟨f1, f2, f3, f4⟩ := folB_iff.1 hf
  have la := ha.le; have lb := hb.le
  rw [Sem.perm p, Sem.perm q]
  have wa := wi_val (s := s) ha
  have wb := wi_val (s := s) hb
  have wj := wi_val (s := s) hj
  have ej : (joined a b).lo = a.lo ∧ (joined a b).hi = b.hi ∧ (joined a b).is = a.is ∧ (joined a b).pr = a.pr := ⟨rfl, rfl, rfl, rfl⟩
  obtain ⟨j1, j2, j3, j4⟩ := ej
  rw [← f1] at wb
  rw [j1, j2] at wj
  constructor
  · rintro ⟨r, hr, e1, e2, e3, e4⟩
    rcases List.mem_cons.1 hr with rfl | hr
    · have := wa.1 e2
      exact ⟨_, List.mem_cons_self, by rw [j1]; exact e1, by rw [j1, j2]; exact wj.2 ⟨this.1, this.2.1, by omega, by omega⟩, by rw [j3]; exact e3, by rw [j4]; exact e4⟩
    · rcases List.mem_cons.1 hr with rfl | hr
      · have := wb.1 e2
        exact ⟨_, List.mem_cons_self, by rw [j1]; omega, by rw [j1, j2]; exact wj.2 ⟨this.1, this.2.1, by omega, by omega⟩, by rw [j3, f2]; exact e3, by rw [j4, f3]; exact e4⟩
      · exact ⟨r, List.mem_cons_of_mem _ hr, e1, e2, e3, e4⟩
  · rintro ⟨r, hr, e1, e2, e3, e4⟩
    rcases List.mem_cons.1 hr with rfl | hr
    · rw [j1, j2] at e2
      rw [j1] at e1
      rw [j3] at e3
      rw [j4] at e4
      obtain ⟨x1, x2, x3, x4⟩ := wj.1 e2
      by_cases hx : valS (s.extract 0 a.lo.size) ≤ valS a.hi
      · exact ⟨a, List.mem_cons_self, e1, wa.2 ⟨x1, x2, x3, hx⟩, e3, e4⟩
      · exact ⟨b, List.mem_cons_of_mem _ List.mem_cons_self, by omega, wb.2 ⟨x1, x2, by omega, x4⟩, by rw [← f2]; exact e3, by rw [← f3]; exact e4⟩
    · exact ⟨r, List.mem_cons_of_mem _ (List.mem_cons_of_mem _ hr), e1, e2, e3, e4⟩
inductive JStar (l : List Rg) : List Rg → Prop
  | refl : JStar l l
  | tail {m m' : List Rg} : JStar l m → Joins m m' → JStar l m'
theorem JStar.ok {l m : List Rg} (hl : TabOK l) (h : JStar l m) : TabOK m ∧ m.length ≤ l.length := by
  induction h with
  | refl => exact ⟨hl, Nat.le_refl _⟩
  | tail _ hj ih => have := joins_ok ih.1 hj; exact ⟨this.1, by omega⟩
theorem JStar.sem {l m : List Rg} (hl : TabOK l) (h : JStar l m) (s : ByteArray) (n : Nat) (is pr : ByteArray) : Sem l s n is pr ↔ Sem m s n is pr := by
  induction h with
  | refl => exact Iff.rfl
  | tail hs hj ih => exact ih.trans (joins_sem (hs.ok hl).1 hj s n is pr)
def NoFol (l : List Rg) : Prop := ∀ a ∈ l, ∀ b ∈ l, folB a b = false
theorem NoFol.perm {l m : List Rg} (h : NoFol l) (p : l.Perm m) : NoFol m := fun a ha b hb => h a (p.mem_iff.2 ha) b (p.mem_iff.2 hb)
theorem NoFol.stays {l m : List Rg} (h : NoFol l) (hs : JStar l m) : m = l := by
  induction hs with
  | refl => rfl
  | tail _ hj ih =>
    obtain ⟨i, k, hi, hk, hf, _⟩ := hj
    subst ih
    rw [rgAt_get _ i hi, rgAt_get _ k hk, h _ (List.getElem_mem hi) _ (List.getElem_mem hk)] at hf
    cases hf
/-! ### The stable order -/
theorem ord_unique {r : Nat → Nat} {n : Nat} {d d' : Array Nat} (h : Ord r n d) (h' : Ord r n d') : d = d' := by
  have hr : (Array.range n).size = n := by simp
  have k := fun d (h : Ord r n d) => Go.Sort.sorted_unique_holds (lt := ahd r) (ahd_swo r) (fun x y a b => by rw [ahd_f] at a b; omega) (Array.range n) d (by rw [hr]; exact h.perm) (by rw [hr]; exact h.sort)
  exact Array.toList_inj.1 ((k d h).trans (k d' h').symm)
theorem SrtOf.perm {l m : List Rg} (h : SrtOf l m) : m.Perm l := by
  obtain ⟨d, h1, rfl⟩ := h
  have := h1.toL.map (rgAt l)
  refine this.trans ?_
  have e : (List.range l.length).map (rgAt l) = l := by
    apply List.ext_getElem
    · simp
    · intro k q1 q2
      rw [List.getElem_map, List.getElem_range, rgAt_get l k q2]
  rw [e]
def SortedR (l : List Rg) : Prop := ∀ i j, i < j → j < l.length → ¬ cmpRg (rgAt l j) (rgAt l i) < 0
theorem SrtOf.sorted {l m : List Rg} (h : SrtOf l m) : SortedR m := by
  have hlen := h.length
  obtain ⟨d, h1, rfl⟩ := h
  intro i j hij hj
  rw [hlen] at hj
  have hz := h1.size
  rw [map_at d l i (by omega), map_at d l j (by omega)]
  have hs := h1.sort i j (Nat.zero_le _) hij hj
  rw [ahd_f] at hs
  have li := h1.lt (k := i) (by omega)
  have lj := h1.lt (k := j) hj
  have := rkR_lt (rgAt l) l.length lj li
  unfold ltR at this
  intro q
  rw [decide_eq_true q, decide_eq_true_eq] at this
  omega
theorem SrtOf.self {l : List Rg} (h : SortedR l) : SrtOf l l := by
  refine ⟨Array.range l.length, ⟨Go.Sort.permIn_refl _ _ _, fun i j _ hij hj => ?_⟩, ?_⟩
  · rw [range_get (k := i) (by omega), range_get (k := j) hj, ahd_f]
    have := rkR_lt (rgAt l) l.length (x := j) (y := i) hj (by omega)
    unfold ltR at this
    rw [decide_eq_false (h i j hij hj), decide_eq_false_iff_not] at this
    omega
  · apply List.ext_getElem
    · simp
    · intro k q1 q2
      simp [rgAt_get l k q1]
theorem SrtOf.unique {l m m' : List Rg} (h : SrtOf l m) (h' : SrtOf l m') : m = m' := by
  obtain ⟨d, h1, rfl⟩ := h
  obtain ⟨d', h1', rfl⟩ := h'
  rw [ord_unique h1 h1']
theorem SrtOf.again {l m m' : List Rg} (h : SrtOf l m) (h' : SrtOf m m') : m' = m := (SrtOf.self h.sorted).unique h' |>.symm
def MrgOf (l r : List Rg) : Prop := ∃ m, JStar l m ∧ NoFol m ∧ SrtOf m r
theorem MrgOf.facts {l r : List Rg} (hl : TabOK l) (h : MrgOf l r) : TabOK r ∧ r.length ≤ l.length ∧ NoFol r ∧ SortedR r ∧ (∀ s n is pr, Sem l s n is pr ↔ Sem r s n is pr) := by
  obtain ⟨m, h1, h2, h3⟩ := h
  have hm := h1.ok hl
  refine ⟨hm.1.perm h3.perm.symm, by rw [h3.perm.length_eq]; exact hm.2, h2.perm h3.perm.symm, h3.sorted, fun s n is pr => (h1.sem hl s n is pr).trans (Sem.perm h3.perm.symm)⟩
theorem MrgOf.again {l r r' : List Rg} (hl : TabOK l) (h : MrgOf l r) (h' : MrgOf r r') : r' = r := by
  obtain ⟨f1, f2, f3, f4, f5⟩ := h.facts hl
  obtain ⟨m, h1, h2, h3⟩ := h'
  obtain rfl := f3.stays h1
  exact ((SrtOf.self f4).unique h3).symm
/-! ### What is found -/
theorem fd_spec (l : List Rg) (s : ByteArray) : ∀ k, k ≤ l.length → ((fdAt l s k).2 = false → ∀ j, j < k → wiB s (rgAt l j).lo (rgAt l j).hi = false) ∧
    ((fdAt l s k).2 = true → (fdAt l s k).1 ∈ l ∧ wiB s (fdAt l s k).1.lo (fdAt l s k).1.hi = true ∧ ∀ j, j < k → wiB s (rgAt l j).lo (rgAt l j).hi = true → (rgAt l j).lo.size ≤ (fdAt l s k).1.lo.size) := by
  intro k
  induction k with
  | zero => intro _; exact ⟨fun _ j hj => absurd hj (Nat.not_lt_zero _), fun h => by cases h⟩
  | succ k ih =>
    intro hk
    obtain ⟨i1, i2⟩ := ih (by omega)
    rw [fdAt_step l s k (by omega)]
    generalize fdAt l s k = acc at *
    have hmem : rgAt l k ∈ l := by rw [rgAt_get l k (by omega)]; exact List.getElem_mem _
    unfold fdStep
    by_cases hc : (wiB s (rgAt l k).lo (rgAt l k).hi && (!acc.2 || decide (acc.1.lo.size < (rgAt l k).lo.size))) = true
    · rw [if_pos hc]
      simp only [Bool.and_eq_true, Bool.or_eq_true, Bool.not_eq_true', decide_eq_true_eq] at hc
      refine ⟨fun h => (by cases h), fun _ => ⟨hmem, hc.1, fun j hj hw => ?_⟩⟩
      show (rgAt l j).lo.size ≤ (rgAt l k).lo.size
      rcases Nat.lt_or_ge j k with q | q
      · rcases hc.2 with f | f
        · rw [i1 f j q] at hw; cases hw
        · cases ha : acc.2
          · rw [i1 ha j q] at hw; cases hw
          · have := (i2 ha).2.2 j q hw; omega
      · have : j = k := by omega
        subst this; exact Nat.le_refl _
    · rw [if_neg hc]
      simp only [Bool.and_eq_true, Bool.or_eq_true, Bool.not_eq_true', decide_eq_true_eq, not_and, not_or, Bool.not_eq_false] at hc
      refine ⟨fun h j hj => ?_, fun h => ⟨(i2 h).1, (i2 h).2.1, fun j hj hw => ?_⟩⟩
      · rcases Nat.lt_or_ge j k with q | q
        · exact i1 h j q
        · have : j = k := by omega
          subst this
          cases hw : wiB s (rgAt l j).lo (rgAt l j).hi
          · rfl
          · have := (hc hw).1; rw [h] at this; cases this
      · rcases Nat.lt_or_ge j k with q | q
        · exact (i2 h).2.2 j q hw
        · have : j = k := by omega
          subst this
          have := (hc hw).2; omega
theorem fd_end (l : List Rg) (s : ByteArray) : ((fdAt l s l.length).2 = false → ∀ r ∈ l, wiB s r.lo r.hi = false) ∧
    ((fdAt l s l.length).2 = true → (fdAt l s l.length).1 ∈ l ∧ wiB s (fdAt l s l.length).1.lo (fdAt l s l.length).1.hi = true ∧ ∀ r ∈ l, wiB s r.lo r.hi = true → r.lo.size ≤ (fdAt l s l.length).1.lo.size) := by
  obtain ⟨h1, h2⟩ := fd_spec l s l.length (Nat.le_refl _)
  refine ⟨fun h r hr => ?_, fun h => ⟨(h2 h).1, (h2 h).2.1, fun r hr hw => ?_⟩⟩
  · obtain ⟨j, hj, rfl⟩ := List.getElem_of_mem hr
    have := h1 h j hj; rw [rgAt_get l j hj] at this; exact this
  · obtain ⟨j, hj, rfl⟩ := List.getElem_of_mem hr
    have := (h2 h).2.2 j hj; rw [rgAt_get l j hj] at this; exact this hw
theorem one_each {l : List Rg} (hl : TabOK l) {a b : Rg} (ha : a ∈ l) (hb : b ∈ l) {s : ByteArray} (wa : wiB s a.lo a.hi = true) (wb : wiB s b.lo b.hi = true) (hz : a.lo.size = b.lo.size) : a = b := by
  by_cases h : a = b
  · exact h
  · exfalso
    obtain ⟨i, hi, rfl⟩ := List.getElem_of_mem ha
    obtain ⟨j, hj, rfl⟩ := List.getElem_of_mem hb
    have hij : i ≠ j := by rintro rfl; exact h rfl
    have hp := List.pairwise_iff_getElem.1 hl.apart
    have hn : NoC l[i] l[j] := by
      rcases Nat.lt_or_ge i j with q | q
      · exact hp i j hi hj q
      · exact (hp j i hj hi (by omega)).symm
    have k1 := (wi_val (hl.good _ ha)).1 wa
    have k2 := (wi_val (hl.good _ hb)).1 wb
    rw [← hz] at k2
    have := hn hz
    omega
/-- Equal meanings lead to the same answer. -/
theorem fd_same {l m : List Rg} (hl : TabOK l) (hm : TabOK m) (hs : ∀ s n is pr, Sem l s n is pr ↔ Sem m s n is pr) (s : ByteArray) :
    (fdAt l s l.length).2 = (fdAt m s m.length).2 ∧ ((fdAt l s l.length).2 = true → (fdAt l s l.length).1.is = (fdAt m s m.length).1.is ∧ (fdAt l s l.length).1.pr = (fdAt m s m.length).1.pr) := by
  obtain ⟨a1, a2⟩ := fd_end l s
  obtain ⟨b1, b2⟩ := fd_end m s
  generalize fdAt l s l.length = A at *
  generalize fdAt m s m.length = B at *
  have e : A.2 = B.2 := by
    cases hA : A.2 <;> cases hB : B.2
    · rfl
    · obtain ⟨k1, k2, k3⟩ := b2 hB
      obtain ⟨r, hr, _, hw, _⟩ := (hs s _ _ _).2 ⟨B.1, k1, rfl, k2, rfl, rfl⟩
      rw [a1 hA r hr] at hw; cases hw
    · obtain ⟨k1, k2, k3⟩ := a2 hA
      obtain ⟨r, hr, _, hw, _⟩ := (hs s _ _ _).1 ⟨A.1, k1, rfl, k2, rfl, rfl⟩
      rw [b1 hB r hr] at hw; cases hw
    · rfl
  refine ⟨e, fun hA => ?_⟩
  obtain ⟨x1, x2, x3⟩ := a2 hA
  obtain ⟨y1, y2, y3⟩ := b2 (e ▸ hA)
  obtain ⟨r, hr, e1, hw, e3, e4⟩ := (hs s _ _ _).2 ⟨B.1, y1, rfl, y2, rfl, rfl⟩
  obtain ⟨t, ht, g1, gw, g3, g4⟩ := (hs s _ _ _).1 ⟨A.1, x1, rfl, x2, rfl, rfl⟩
  have h1 := x3 r hr hw
  have h2 := y3 t ht gw
  have hra : r = A.1 := one_each hl hr x1 hw x2 (by omega)
  rw [← hra]; exact ⟨e3, e4⟩
end Go.Proofs.YtiegoffdbhmfbaaGreatDoor
