/- Valid tables, plain: digits as numbers, what does not clash. No walk. -/
import Derived.Test.YtiegoffdbhmfbaaGreatDoorVal
import Derived.Test.YtiegoffdbhmfbaaGreatDoorFin
import Derived.Sort.Walk0
namespace Go.Proofs.YtiegoffdbhmfbaaGreatDoor
set_option linter.unusedVariables false

theorem dg_bounds {b : UInt8} (h : isDg b = true) : 48 ≤ b.toNat ∧ b.toNat ≤ 57 := by unfold isDg at h; simpa using h
theorem valF_add : ∀ (l : List UInt8) (n : Nat), valF n l = n * 10 ^ l.length + valF 0 l
  | [], n => by simp [valF]
  | b :: l, n => by
    have h1 : valF n (b :: l) = valF (10 * n + (b.toNat - 48)) l := rfl
    have h2 : valF 0 (b :: l) = valF (10 * 0 + (b.toNat - 48)) l := rfl
    rw [h1, h2, valF_add l (10 * n + (b.toNat - 48)), valF_add l (10 * 0 + (b.toNat - 48)), List.length_cons, Nat.pow_succ, Nat.add_mul, Nat.mul_zero, Nat.zero_add, Nat.add_assoc]
    congr 1
    rw [Nat.mul_comm 10 n, Nat.mul_assoc, Nat.mul_comm 10]
theorem valF_cons (b : UInt8) (l : List UInt8) : valF 0 (b :: l) = (b.toNat - 48) * 10 ^ l.length + valF 0 l := by
  have h2 : valF 0 (b :: l) = valF (10 * 0 + (b.toNat - 48)) l := rfl
  rw [h2, valF_add, Nat.mul_zero, Nat.zero_add]
theorem valF_lt0 {l : List UInt8} (h : l.all isDg = true) : valF 0 l < 10 ^ l.length := by
  have := valF_lt l 0 0 h (by decide)
  rw [Nat.zero_add] at this; exact this
theorem less_val : ∀ (a b : List UInt8), a.all isDg = true → b.all isDg = true → a.length = b.length → Op.bytesLess a b = decide (valF 0 a < valF 0 b)
  | [], [], _, _, _ => rfl
  | [], _ :: _, _, _, h => by simp at h
  | _ :: _, [], _, _, h => by simp at h
  | x :: a, y :: b, ha, hb, hl => by
    rw [List.all_cons, Bool.and_eq_true] at ha hb
    have hl' : a.length = b.length := by simpa using hl
    have bx := dg_bounds ha.1
    have bz := dg_bounds hb.1
    have va := valF_lt0 ha.2
    have vb := valF_lt0 hb.2
    rw [Op.bytesLess, less_val a b ha.2 hb.2 hl', valF_cons, valF_cons, hl']
    rw [hl'] at va
    generalize valF 0 a = A at *
    generalize valF 0 b = B at *
    generalize 10 ^ b.length = P at *
    by_cases h : x = y
    · subst h
      rw [decide_eq_false (UInt8.lt_irrefl x), Bool.false_or, beq_self_eq_true, Bool.true_and, decide_eq_decide]
      omega
    · have hne : (x == y) = false := by simpa using h
      rw [hne, Bool.false_and, Bool.or_false, decide_eq_decide, UInt8.lt_iff_toNat_lt]
      have hn : x.toNat ≠ y.toNat := fun q => h (UInt8.toNat_inj.1 q)
      constructor
      · intro q
        have h1 : (x.toNat - 48 + 1) * P ≤ (y.toNat - 48) * P := Nat.mul_le_mul_right _ (by omega)
        rw [Nat.add_mul, Nat.one_mul] at h1
        omega
      · intro q
        rcases Nat.lt_or_ge x.toNat y.toNat with g | g
        · exact g
        · have h1 : (y.toNat - 48 + 1) * P ≤ (x.toNat - 48) * P := Nat.mul_le_mul_right _ (by omega)
          rw [Nat.add_mul, Nat.one_mul] at h1
          omega
theorem val_inj : ∀ (a b : List UInt8), a.all isDg = true → b.all isDg = true → a.length = b.length → valF 0 a = valF 0 b → a = b
  | [], [], _, _, _, _ => rfl
  | [], _ :: _, _, _, h, _ => by simp at h
  | _ :: _, [], _, _, h, _ => by simp at h
  | x :: a, y :: b, ha, hb, hl, hv => by
    rw [List.all_cons, Bool.and_eq_true] at ha hb
    have hl' : a.length = b.length := by simpa using hl
    have bx := dg_bounds ha.1
    have bz := dg_bounds hb.1
    have va := valF_lt0 ha.2
    have vb := valF_lt0 hb.2
    rw [valF_cons, valF_cons, hl'] at hv
    rw [hl'] at va
    have hxy : x.toNat = y.toNat := by
      rcases Nat.lt_trichotomy x.toNat y.toNat with g | g | g
      · have h1 : (x.toNat - 48 + 1) * 10 ^ b.length ≤ (y.toNat - 48) * 10 ^ b.length := Nat.mul_le_mul_right _ (by omega)
        rw [Nat.add_mul, Nat.one_mul] at h1
        omega
      · exact g
      · have h1 : (y.toNat - 48 + 1) * 10 ^ b.length ≤ (x.toNat - 48) * 10 ^ b.length := Nat.mul_le_mul_right _ (by omega)
        rw [Nat.add_mul, Nat.one_mul] at h1
        omega
    rw [hxy] at hv
    rw [UInt8.toNat_inj.1 hxy, val_inj a b ha.2 hb.2 hl' (by omega)]
theorem tl (s : ByteArray) : s.toList = s.data.toList := Lib.toList_data s
theorem less_valS {a b : ByteArray} (ha : digsB a = true) (hb : digsB b = true) (hz : a.size = b.size) : Op.bytesLess a.toList b.toList = decide (valS a < valS b) := by
  rw [tl, tl]; exact less_val _ _ ha hb hz
theorem eq_valS {a b : ByteArray} (ha : digsB a = true) (hb : digsB b = true) (hz : a.size = b.size) : (a.toList == b.toList) = decide (valS a = valS b) := by
  rw [tl, tl]
  by_cases h : valS a = valS b
  · rw [decide_eq_true h, val_inj _ _ ha hb hz h]; simp
  · rw [decide_eq_false h]
    have : ¬ a.data.toList = b.data.toList := fun q => h (by unfold valS; rw [q])
    simpa using this
theorem gtS_val {a b : ByteArray} (ha : digsB a = true) (hb : digsB b = true) (hz : a.size = b.size) : gtS a b = decide (valS b < valS a) := by
  unfold gtS
  rw [less_valS ha hb hz, eq_valS ha hb hz, ← decide_not, ← decide_not, ← Bool.decide_and, decide_eq_decide]
  omega
theorem leS_val {a b : ByteArray} (ha : digsB a = true) (hb : digsB b = true) (hz : a.size = b.size) : leS a b = decide (valS a ≤ valS b) := by
  unfold leS
  rw [less_valS ha hb hz, eq_valS ha hb hz, ← Bool.decide_or, decide_eq_decide]
  omega
/-! ### filled -/
theorem rep_len (c : UInt8) (n : Nat) : (Lib.repeatL [c] n).length = n := by rw [Lib.repeatL_length]; simp
theorem rep_rep (c : UInt8) : ∀ n, Lib.repeatL [c] n = List.replicate n c
  | 0 => rfl
  | n + 1 => by
    show [c] ++ Lib.repeatL [c] n = _
    rw [rep_rep c n, List.replicate_succ]; rfl
theorem fill_toL (s : ByteArray) (c : UInt8) : (fillS s c).data.toList = s.data.toList ++ List.replicate (10 - s.size) c := by
  unfold fillS
  rw [ByteArray.data_append, Array.toList_append, rep_rep]
theorem fill_dig {s : ByteArray} {c : UInt8} (hs : digsB s = true) (hc : isDg c = true) : digsB (fillS s c) = true := by
  unfold digsB
  rw [fill_toL, List.all_append]
  have : (List.replicate (10 - s.size) c).all isDg = true := by
    rw [List.all_eq_true]; intro x hx; rw [(List.mem_replicate.1 hx).2]; exact hc
  rw [this, Bool.and_true]; exact hs
theorem fill_size {s : ByteArray} (c : UInt8) (hs : s.size ≤ 10) : (fillS s c).size = 10 := by
  have h : (fillS s c).data.toList.length = 10 := by
    rw [fill_toL, List.length_append, List.length_replicate]
    show s.size + _ = 10; omega
  exact h
theorem valF_app (a b : List UInt8) : valF 0 (a ++ b) = valF 0 a * 10 ^ b.length + valF 0 b := by
  have : valF 0 (a ++ b) = valF (valF 0 a) b := by unfold valF; rw [List.foldl_append]
  rw [this, valF_add]
theorem val_nines : ∀ n, valF 0 (List.replicate n 57) + 1 = 10 ^ n
  | 0 => rfl
  | n + 1 => by
    rw [List.replicate_succ, valF_cons, List.length_replicate, Nat.pow_succ]
    have := val_nines n
    have e : (57 : UInt8).toNat - 48 = 9 := rfl
    rw [e]; omega
theorem val_zeros : ∀ n, valF 0 (List.replicate n 48) = 0
  | 0 => rfl
  | n + 1 => by
    rw [List.replicate_succ, valF_cons, val_zeros n]
    have e : (48 : UInt8).toNat - 48 = 0 := rfl
    rw [e]; omega
theorem fill0_val (s : ByteArray) : valS (fillS s 48) = valS s * 10 ^ (10 - s.size) := by
  unfold valS; rw [fill_toL, valF_app, val_zeros, List.length_replicate]; rfl
theorem fill9_val (s : ByteArray) : valS (fillS s 57) + 1 = (valS s + 1) * 10 ^ (10 - s.size) := by
  unfold valS; rw [fill_toL, valF_app, List.length_replicate, Nat.add_assoc, val_nines, Nat.add_mul, Nat.one_mul]
theorem max_val {a b : ByteArray} (ha : digsB a = true) (hb : digsB b = true) (hz : a.size = b.size) : digsB (Lib.maxS a b) = true ∧ (Lib.maxS a b).size = a.size ∧ valS (Lib.maxS a b) = max (valS a) (valS b) := by
  have h := less_val _ _ ha hb hz
  rw [bytesLess_eq, decide_eq_decide] at h
  unfold Lib.maxS
  by_cases q : a.data.toList < b.data.toList
  · rw [if_pos q]; have := h.1 q; exact ⟨hb, hz.symm, by unfold valS; omega⟩
  · rw [if_neg q]; have : ¬ valF 0 a.data.toList < valF 0 b.data.toList := fun g => q (h.2 g)
    exact ⟨ha, rfl, by unfold valS; omega⟩
theorem min_val {a b : ByteArray} (ha : digsB a = true) (hb : digsB b = true) (hz : a.size = b.size) : digsB (Lib.minS a b) = true ∧ (Lib.minS a b).size = a.size ∧ valS (Lib.minS a b) = min (valS a) (valS b) := by
  have h := less_val _ _ ha hb hz
  rw [bytesLess_eq, decide_eq_decide] at h
  unfold Lib.minS
  by_cases q : a.data.toList < b.data.toList ∨ a.data.toList = b.data.toList
  · rw [if_pos q]
    refine ⟨ha, rfl, ?_⟩
    rcases q with q | q
    · have := h.1 q; unfold valS; omega
    · unfold valS; rw [q]; omega
  · rw [if_neg q]
    have q1 : ¬ valF 0 a.data.toList < valF 0 b.data.toList := fun g => q (.inl (h.2 g))
    exact ⟨hb, hz.symm, by unfold valS; omega⟩
/-! ### Good ranges -/
structure Good (r : Rg) : Prop where
  dlo : digsB r.lo = true
  dhi : digsB r.hi = true
  one : 1 ≤ r.lo.size
  ten : r.lo.size ≤ 10
  sz : r.hi.size = r.lo.size
  le : valS r.lo ≤ valS r.hi
  nis : nameB r.is.data.toList = true
  npr : nameB r.pr.data.toList = true
theorem Good.form {r : Rg} (h : Good r) : formB r.lo r.hi = true := by
  unfold formB pfxB
  have h1 := h.sz; have h2 := h.one; have h3 := h.ten
  simp [h.dlo, h.dhi, h1, h2, h3]
theorem good_iff (r : Rg) : badOne r = 0 ↔ Good r := by
  unfold badOne
  constructor
  · intro h
    by_cases h1 : formB r.lo r.hi = false
    · rw [if_pos h1] at h; exact absurd h (by decide)
    · rw [if_neg h1] at h
      have hf : formB r.lo r.hi = true := by simpa using h1
      obtain ⟨z1, z2, z3, z4, z5, z6⟩ := form_size hf
      by_cases h2 : gtS r.lo r.hi = true
      · rw [if_pos h2] at h; exact absurd h (by decide)
      · rw [if_neg h2] at h
        by_cases h3 : (!nameB r.is.data.toList || !nameB r.pr.data.toList) = true
        · rw [if_pos h3] at h; exact absurd h (by decide)
        · rw [gtS_val z5 z6 z3] at h2
          simp only [decide_eq_true_eq] at h2
          simp only [Bool.or_eq_true, Bool.not_eq_true', not_or, Bool.not_eq_false] at h3
          exact ⟨z5, z6, z4, z1, z3.symm, by omega, h3.1, h3.2⟩
  · intro h
    rw [if_neg (by rw [h.form]; simp), if_neg (by rw [gtS_val h.dlo h.dhi h.sz.symm]; have := h.le; simp; omega), if_neg (by rw [h.nis, h.npr]; simp)]
/-- Two ranges of one length have no number in common. -/
def NoC (a b : Rg) : Prop := a.lo.size = b.lo.size → valS a.hi < valS b.lo ∨ valS b.hi < valS a.lo
theorem NoC.symm {a b : Rg} (h : NoC a b) : NoC b a := fun e => (h e.symm).symm
theorem clash_val {a b : Rg} (ha : Good a) (hb : Good b) : clash a b = false ↔ NoC a b := by
  unfold clash NoC
  by_cases hz : a.lo.size = b.lo.size
  · rw [decide_eq_true hz, Bool.true_and]
    have d0 : isDg 48 = true := by decide
    have d9 : isDg 57 = true := by decide
    have a0 := fill_dig (c := 48) ha.dlo d0
    have b0 := fill_dig (c := 48) hb.dlo d0
    have a9 := fill_dig (c := 57) ha.dhi d9
    have b9 := fill_dig (c := 57) hb.dhi d9
    have sa := ha.sz; have sb := hb.sz; have ta := ha.ten; have tb := hb.ten
    have e1 := fill_size (s := a.lo) 48 ta
    have e2 := fill_size (s := b.lo) 48 tb
    have e3 := fill_size (s := a.hi) 57 (by omega)
    have e4 := fill_size (s := b.hi) 57 (by omega)
    obtain ⟨m1, m2, m3⟩ := max_val a0 b0 (by omega)
    obtain ⟨n1, n2, n3⟩ := min_val a9 b9 (by omega)
    have v1 := fill0_val a.lo
    have v2 := fill0_val b.lo
    have v3 := fill9_val a.hi
    have v4 := fill9_val b.hi
    have g1 : gtS a.lo a.hi = false := by rw [gtS_val ha.dlo ha.dhi ha.sz.symm]; have := ha.le; simp; omega
    have g2 : gtS b.lo b.hi = false := by rw [gtS_val hb.dlo hb.dhi hb.sz.symm]; have := hb.le; simp; omega
    unfold ovB
    rw [ha.form, hb.form, g1, g2, gtS_val m1 n1 (by omega), m3, n3]
    simp only [Bool.and_true, Bool.not_false, Bool.true_and, Bool.not_eq_false', decide_eq_true_eq]
    rw [sa] at v3
    rw [sb] at v4
    rw [← hz] at v2 v4
    have hP : 0 < 10 ^ (10 - a.lo.size) := Nat.pow_pos (by decide)
    generalize 10 ^ (10 - a.lo.size) = P at *
    generalize valS (fillS a.lo 48) = A0 at *
    generalize valS (fillS b.lo 48) = B0 at *
    generalize valS (fillS a.hi 57) = A9 at *
    generalize valS (fillS b.hi 57) = B9 at *
    have la := ha.le; have lb := hb.le
    have key : ∀ x y : Nat, (y + 1) * P ≤ x * P ↔ y < x := fun x y => ⟨fun h => Nat.le_of_mul_le_mul_right h hP, fun h => Nat.mul_le_mul_right _ h⟩
    have mono : ∀ x y : Nat, x ≤ y → x * P < (y + 1) * P := fun x y h => Nat.mul_lt_mul_of_pos_right (by omega) hP
    have k1 := key (valS b.lo) (valS a.hi)
    have k2 := key (valS a.lo) (valS b.hi)
    have k3 := mono _ _ la
    have k4 := mono _ _ lb
    constructor
    · intro h _
      by_cases q1 : valS a.hi < valS b.lo
      · exact .inl q1
      · right
        rw [← k2]
        rw [← k1] at q1
        omega
    · intro h
      rcases h hz with h | h
      · have := k1.2 h; omega
      · have := k2.2 h; omega
  · rw [decide_eq_false hz]
    exact ⟨fun _ q => absurd q hz, fun _ => rfl⟩
/-- A valid table. -/
structure TabOK (l : List Rg) : Prop where
  len : l.length ≤ 64
  good : ∀ r ∈ l, Good r
  apart : l.Pairwise NoC
theorem TabOK.perm {l m : List Rg} (h : TabOK l) (p : l.Perm m) : TabOK m :=
  ⟨by rw [← p.length_eq]; exact h.len, fun r hr => h.good r (p.mem_iff.2 hr), (p.pairwise_iff (fun h => NoC.symm h)).1 h.apart⟩
theorem ck_iff (l : List Rg) : ckR l = 0 ↔ TabOK l := by
  constructor
  · intro h
    unfold ckR exR at h
    by_cases h0 : 64 < l.length
    · rw [if_pos h0] at h; exact absurd h (by decide)
    · rw [if_neg h0] at h
      cases h1 : fstB (badP l) l.length with
      | some i =>
        rw [h1] at h
        have hi := h1
        unfold fstB at hi
        have hp := List.find?_some hi
        unfold badP at hp
        simp only [ne_eq, decide_eq_true_eq] at hp
        exact absurd h hp
      | none =>
        rw [h1] at h
        have hb := fstB_none_iff.1 h1
        cases h2 : fstB (ovP l) l.length with
        | some i => rw [h2] at h; exact absurd (show (7 : Int) = 0 from h) (by decide)
        | none =>
          have ho := fstB_none_iff.1 h2
          have hg : ∀ i, (hi : i < l.length) → Good l[i] := fun i hi => by
            have := hb i hi
            unfold badP at this
            rw [rgAt_get l i hi] at this
            exact (good_iff _).1 (by simpa using this)
          refine ⟨by omega, fun r hr => ?_, List.pairwise_iff_getElem.2 fun i j hi hj hij => ?_⟩
          · obtain ⟨i, hi, rfl⟩ := List.getElem_of_mem hr
            exact hg i hi
          · have := ho j hj
            unfold ovP at this
            have hn : fstB (fun k => clash (rgAt l j) (rgAt l k)) j = none := by
              cases q : fstB (fun k => clash (rgAt l j) (rgAt l k)) j with
              | none => rfl
              | some _ => rw [q] at this; cases this
            have hc := fstB_none_iff.1 hn i hij
            rw [rgAt_get l i hi, rgAt_get l j hj] at hc
            exact ((clash_val (hg j hj) (hg i hi)).1 hc).symm
  · intro h
    have hg : ∀ j, j < l.length → badOne (rgAt l j) = 0 := fun j hj => by rw [rgAt_get l j hj]; exact (good_iff _).2 (h.good _ (List.getElem_mem hj))
    have ho : ∀ j, j < l.length → ovP l j = false := fun j hj => by
      have : fstB (fun k => clash (rgAt l j) (rgAt l k)) j = none := fstB_none fun k hk => by
        rw [rgAt_get l j hj, rgAt_get l k (by omega)]
        exact (clash_val (h.good _ (List.getElem_mem _)) (h.good _ (List.getElem_mem _))).2 ((List.pairwise_iff_getElem.1 h.apart k j (by omega) hj hk).symm)
      unfold ovP; rw [this]; rfl
    have hl := h.len
    unfold ckR
    rw [exR_ok (by omega) hg ho]
end Go.Proofs.YtiegoffdbhmfbaaGreatDoor
