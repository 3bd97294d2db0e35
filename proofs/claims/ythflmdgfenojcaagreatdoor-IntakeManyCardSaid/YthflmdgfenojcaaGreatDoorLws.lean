/- The plain laws of records: the round trip, debits, the order. -/
import Derived.Test.YthflmdgfenojcaaGreatDoorSml
import Derived.Sort.Walk0
namespace Go.Proofs.YthflmdgfenojcaaGreatDoor
set_option linter.unusedVariables false
open Go.RowKit

theorem all_ptE {r : Rec} (h : chkE r = 0) : ∀ j, j < 6 → ptE r j = 0 := by
  intro j hj
  induction j using Nat.strongRecOn with
  | _ j ih =>
    by_cases q : ptE r j = 0
    · exact q
    · have := chkE_at r j hj (fun i hi => ih i hi (by omega)) q
      omega
/-- The texts of a valid record. -/
theorem chk_texts {r : Rec} (h : chkE r = 0) : idB r.id = true ∧ (emptyB r.au = true ∨ idB r.au = true) ∧ nameB r.aq.data.toList = true ∧ nameB r.iss.data.toList = true ∧ idB r.me = true ∧ panE r.ca = 0 ∧ monE r.a r.cu = 0 := by
  have h0 := all_ptE h
  have a1 := h0 1 (by omega)
  have a2 := h0 2 (by omega)
  have a3 := h0 3 (by omega)
  simp only [ptE, namesE, cardE] at a1 a2 a3
  split at a1
  · rename_i q
    split at a2
    · rename_i q2; exact ⟨q.1, q.2.1, q.2.2.1, q.2.2.2.1, q.2.2.2.2, q2, a3⟩
    · cases a2
  · cases a1
theorem idn_no {s : ByteArray} (h : idB s = true) : ∀ b ∈ s.data.toList, b ≠ 124 := by
  intro b hb e
  subst e
  unfold idB at h
  simp only [Bool.and_eq_true, List.all_eq_true] at h
  have := h.2 _ hb
  exact absurd this (by decide)
theorem name_bar {l : List UInt8} (h : nameB l = true) : ∀ b ∈ l, b ≠ 124 := by
  intro b hb e
  subst e
  unfold nameB at h
  simp only [Bool.and_eq_true, List.all_eq_true] at h
  have := h.2 _ hb
  exact absurd this (by decide)
theorem empty_bar {s : ByteArray} (h : emptyB s = true) : ∀ b ∈ s.data.toList, b ≠ 124 := by
  intro b hb
  unfold emptyB at h
  have h0 : s.data.toList.length = 0 := by simpa using h
  rw [List.length_eq_zero_iff.1 h0] at hb; cases hb
theorem pan_bar {s : ByteArray} (h : panE s = 0) : ∀ b ∈ s.data.toList, b ≠ 124 := by
  intro b hb e
  subst e
  unfold panE at h
  split at h
  · cases h
  · split at h
    · cases h
    · split at h
      · cases h
      · rename_i q
        have hd : digsB s = true := by simpa using q
        unfold digsB at hd
        rw [List.all_eq_true] at hd
        exact absurd (hd _ hb) (by decide)
theorem cur_bar {a : Int} {s : ByteArray} (h : monE a s = 0) : ∀ b ∈ s.data.toList, b ≠ 124 := by
  intro b hb e
  subst e
  unfold monE at h
  split at h
  · rename_i q
    unfold curB at q
    simp only [Bool.and_eq_true, List.all_eq_true] at q
    exact absurd (q.2 _ hb) (by decide)
  · cases h
theorem itoS_bar (v : Int) : ∀ b ∈ (itoS v).data.toList, b ≠ 124 := itoa_no v
theorem finS_bar (f : Bool) : ∀ b ∈ (finS f).data.toList, b ≠ 124 := by cases f <;> decide
theorem map_inj {l l' : List ByteArray} (h : l.map (·.data.toList) = l'.map (·.data.toList)) : l = l' := by
  induction l generalizing l' with
  | nil => cases l' with
    | nil => rfl
    | cons x l' => cases h
  | cons x l ih =>
    cases l' with
    | nil => cases h
    | cons y l' =>
      rw [List.map_cons, List.map_cons] at h
      injection h with h1 h2
      rw [ih h2, ByteArray.ext (Array.ext' h1)]
theorem cut_enc {r : Rec} (h : chkE r = 0) : cutS (encS r) = r.texts := by
  apply map_inj
  rw [cutS_data]
  show cutL 124 (Lib.join (r.texts.map (·.data.toList)) [124]) = _
  obtain ⟨t1, t2, t3, t4, t5, t6, t7⟩ := chk_texts h
  refine cut_join 124 _ _ ?_
  intro y hy
  obtain ⟨x, hx, rfl⟩ := List.mem_map.1 (show y ∈ r.texts.map (·.data.toList) from hy)
  unfold Rec.texts at hx
  simp only [List.mem_cons, List.not_mem_nil, or_false] at hx
  rcases hx with rfl | rfl | rfl | rfl | rfl | rfl | rfl | rfl | rfl | rfl | rfl | rfl
  · exact itoS_bar _
  · exact idn_no t1
  · rcases t2 with t2 | t2
    · exact empty_bar t2
    · exact idn_no t2
  · exact name_bar t3
  · exact name_bar t4
  · exact idn_no t5
  · exact pan_bar t6
  · exact itoS_bar _
  · exact cur_bar t7
  · exact itoS_bar _
  · exact itoS_bar _
  · exact finS_bar _
theorem numV_ito {v : Int} (h : -9223372036854775808 ≤ v ∧ v ≤ 9223372036854775807) : numV (itoS v) = v ∧ numOK (itoS v) = true := by
  unfold numV numOK
  rw [numR_ito v h]; exact ⟨rfl, rfl⟩
theorem fin_end (f : Bool) : endB (finS f) = true ∧ decide (finS f = oneS) = f := by cases f <;> decide
/-- A valid record is decoded from its text. -/
theorem dec_enc {r : Rec} (h : chkE r = 0) : decE (encS r) = 0 ∧ decV (encS r) = r := by
  obtain ⟨i1, i2, i3, i4, i5, i6, i7, i8⟩ := Fit.ints r h
  have n0 := numV_ito (v := r.k) (by omega)
  have n7 := numV_ito (v := r.a) (by omega)
  have n9 := numV_ito (v := r.d) (by omega)
  have n10 := numV_ito (v := r.c) (by omega)
  have hc := cut_enc h
  have hr : recL (cutS (encS r)) = r := by
    rw [hc]
    show (⟨numV (itoS r.k), r.id, r.au, r.aq, r.iss, r.me, r.ca, numV (itoS r.a), r.cu, numV (itoS r.d), numV (itoS r.c), decide (finS r.f = oneS)⟩ : Rec) = r
    rw [n0.1, n7.1, n9.1, n10.1, (fin_end r.f).2]
  have hf : formB (cutS (encS r)) = true := by
    rw [hc]
    show (decide (r.texts.length = 12) && ((numOK (itoS r.k) && (numOK (itoS r.a) && (numOK (itoS r.d) && numOK (itoS r.c)))) && endB (finS r.f))) = true
    rw [n0.2, n7.2, n9.2, n10.2, (fin_end r.f).1]; rfl
  have he : decE (encS r) = 0 := by
    unfold decE
    rw [if_pos hf, hr, h]
  refine ⟨he, ?_⟩
  unfold decV
  rw [if_pos he, hr]
theorem num_back {s : ByteArray} (h : numOK s = true) : itoS (numV s) = s := by
  unfold numOK at h
  unfold numV
  cases hn : numR s with
  | none => rw [hn] at h; cases h
  | some v => exact (numR_some hn).2.symm
theorem end_back {p : ByteArray} (h : endB p = true) : finS (decide (p = oneS)) = p := by
  unfold endB at h
  rw [Bool.or_eq_true, decide_eq_true_eq, decide_eq_true_eq] at h
  rcases h with rfl | rfl <;> decide
/-- What is decoded is the text of a valid record. -/
theorem enc_dec {s : ByteArray} (h : decE s = 0) : chkE (decV s) = 0 ∧ encS (decV s) = s := by
  have hv : decV s = recL (cutS s) := by unfold decV; rw [if_pos h]
  unfold decE at h
  split at h
  · rename_i hf
    rw [hv]
    refine ⟨h, ?_⟩
    unfold formB numsB at hf
    simp only [Bool.and_eq_true, decide_eq_true_eq] at hf
    obtain ⟨hl, ⟨m0, m7, m9, m10⟩, hend⟩ := hf
    have ht : (recL (cutS s)).texts = cutS s := by
      obtain ⟨p0, p1, p2, p3, p4, p5, p6, p7, p8, p9, p10, p11, hp⟩ := list12 (cutS s) hl
      rw [hp] at m0 m7 m9 m10 hend ⊢
      show [itoS (numV p0), p1, p2, p3, p4, p5, p6, itoS (numV p7), p8, itoS (numV p9), itoS (numV p10), finS (decide (p11 = oneS))] = _
      rw [num_back (s := p0) m0, num_back (s := p7) m7, num_back (s := p9) m9, num_back (s := p10) m10, end_back (p := p11) hend]
    unfold encS
    rw [ht, cutS_data, join_cut]
  · cases h
theorem zrec_bad {s : ByteArray} (h : decE s ≠ 0) : decV s = zrec := by unfold decV; rw [if_neg h]
/-! ### debits -/
theorem chkE_fin (r : Rec) (b : Bool) : chkE { r with f := b } = chkE r := rfl
theorem deb_bad {r : Rec} (h : chkE r ≠ 0) : debV r = 0 := by unfold debV; rw [if_neg h]
theorem deb_ok {r : Rec} (h : chkE r = 0) : (debV r = r.a ∨ debV r = -r.a) ∧ 1 ≤ r.a ∧ r.a ≤ 999999999999 ∧ 1 ≤ r.k ∧ r.k ≤ 4 ∧ (0 < debV r ↔ (r.k = 1 ∨ r.k = 4)) := by
  obtain ⟨i1, i2, i3, i4, -⟩ := Fit.ints r h
  unfold debV
  rw [if_pos h]
  by_cases q : r.k = 1 ∨ r.k = 4
  · rw [if_pos q]; exact ⟨.inl rfl, i3, i4, i1, i2, ⟨fun _ => q, fun _ => by omega⟩⟩
  · rw [if_neg q]; exact ⟨.inr rfl, i3, i4, i1, i2, ⟨fun _ => by omega, fun w => absurd w q⟩⟩
theorem deb_fin (r : Rec) (b : Bool) : debV { r with f := b } = debV r := rfl
/-! ### the order -/
theorem bl_irr (x : List UInt8) : Op.bytesLess x x = false := by
  induction x with
  | nil => rfl
  | cons a x ih => simp [Op.bytesLess, ih]
theorem bl_asym : ∀ (x y : List UInt8), Op.bytesLess x y = true → Op.bytesLess y x = false
  | [], [], h => by simp [Op.bytesLess] at h
  | [], b :: y, h => by simp [Op.bytesLess]
  | a :: x, [], h => by simp [Op.bytesLess] at h
  | a :: x, b :: y, h => by
    simp only [Op.bytesLess, Bool.or_eq_true, decide_eq_true_eq, Bool.and_eq_true, beq_iff_eq] at h
    simp only [Op.bytesLess, Bool.or_eq_false_iff, decide_eq_false_iff_not, Bool.and_eq_false_iff, beq_eq_false_iff_ne, ne_eq]
    simp only [UInt8.lt_iff_toNat_lt, ← UInt8.toNat_inj] at h ⊢
    rcases h with h | ⟨h1, h2⟩
    · exact ⟨by omega, .inl (by omega)⟩
    · exact ⟨by omega, .inr (bl_asym x y h2)⟩
theorem bl_trans : ∀ (x y z : List UInt8), Op.bytesLess x y = true → Op.bytesLess y z = true → Op.bytesLess x z = true
  | _, [], z, h, _ => by simp [Op.bytesLess] at h
  | _, _ :: _, [], _, h => by simp [Op.bytesLess] at h
  | [], b :: y, c :: z, h1, h2 => by simp [Op.bytesLess]
  | a :: x, b :: y, c :: z, h1, h2 => by
    simp only [Op.bytesLess, Bool.or_eq_true, decide_eq_true_eq, Bool.and_eq_true, beq_iff_eq] at h1 h2 ⊢
    simp only [UInt8.lt_iff_toNat_lt, ← UInt8.toNat_inj] at h1 h2 ⊢
    rcases h1 with h1 | ⟨e1, h1⟩ <;> rcases h2 with h2 | ⟨e2, h2⟩
    · left; omega
    · left; omega
    · left; omega
    · right; exact ⟨by omega, bl_trans x y z h1 h2⟩
theorem bl_tri : ∀ (x y : List UInt8), Op.bytesLess x y = false → Op.bytesLess y x = false → x = y
  | [], [], _, _ => rfl
  | [], b :: y, h, _ => by simp [Op.bytesLess] at h
  | a :: x, [], _, h => by simp [Op.bytesLess] at h
  | a :: x, b :: y, h1, h2 => by
    simp only [Op.bytesLess, Bool.or_eq_false_iff, decide_eq_false_iff_not, Bool.and_eq_false_iff, beq_eq_false_iff_ne, ne_eq] at h1 h2
    simp only [UInt8.lt_iff_toNat_lt, ← UInt8.toNat_inj] at h1 h2
    have e : a = b := UInt8.toNat_inj.1 (by omega)
    subst e
    rw [bl_tri x y (h1.2.resolve_left (by simp)) (h2.2.resolve_left (by simp))]
theorem toList_inj {s t : ByteArray} (h : s.toList = t.toList) : s = t := by
  rw [ByteArray.toList_eq, ByteArray.toList_eq] at h
  exact ByteArray.ext (Array.ext' h)
theorem less_irr (a : Rec) : lessB a a = false := by
  unfold lessB
  rw [if_neg (by simp), if_neg (by simp), bl_irr]
theorem less_asym {a b : Rec} (h : lessB a b = true) : lessB b a = false := by
  unfold lessB at h ⊢
  by_cases h1 : a.d = b.d
  · rw [if_neg (by simp [h1])] at h ⊢
    by_cases h2 : a.aq = b.aq
    · rw [if_neg (by simp [h2])] at h ⊢
      exact bl_asym _ _ h
    · rw [if_pos h2] at h
      rw [if_pos (Ne.symm h2)]
      exact bl_asym _ _ h
  · rw [if_pos h1] at h
    rw [if_pos (Ne.symm h1)]
    have := of_decide_eq_true h
    exact decide_eq_false (by omega)
theorem less_tri {a b : Rec} (h1 : lessB a b = false) (h2 : lessB b a = false) : a.d = b.d ∧ a.aq = b.aq ∧ a.id = b.id := by
  unfold lessB at h1 h2
  by_cases e1 : a.d = b.d
  · rw [if_neg (by simp [e1])] at h1 h2
    by_cases e2 : a.aq = b.aq
    · rw [if_neg (by simp [e2])] at h1 h2
      exact ⟨e1, e2, toList_inj (bl_tri _ _ h1 h2)⟩
    · rw [if_pos e2] at h1
      rw [if_pos (Ne.symm e2)] at h2
      exact absurd (toList_inj (bl_tri _ _ h1 h2)) e2
  · rw [if_pos e1] at h1
    rw [if_pos (Ne.symm e1)] at h2
    have := of_decide_eq_false h1
    have := of_decide_eq_false h2
    omega
theorem less_trans {a b c : Rec} (h1 : lessB a b = true) (h2 : lessB b c = true) : lessB a c = true := by
  unfold lessB at h1 h2 ⊢
  by_cases e1 : a.d = b.d
  · rw [if_neg (by simp [e1])] at h1
    by_cases e2 : b.d = c.d
    · rw [if_neg (by simp [e2])] at h2
      rw [if_neg (by rw [e1, e2]; simp)]
      by_cases f1 : a.aq = b.aq
      · rw [if_neg (by simp [f1])] at h1
        by_cases f2 : b.aq = c.aq
        · rw [if_neg (by simp [f2])] at h2
          rw [if_neg (by rw [f1, f2]; simp)]
          exact bl_trans _ _ _ h1 h2
        · rw [if_pos f2] at h2
          rw [if_pos (by rw [f1]; exact f2), f1]
          exact h2
      · rw [if_pos f1] at h1
        by_cases f2 : b.aq = c.aq
        · rw [if_pos (by rw [← f2]; exact f1), ← f2]
          exact h1
        · rw [if_pos f2] at h2
          have := bl_trans _ _ _ h1 h2
          rw [if_pos (fun e => by rw [e, bl_irr] at this; cases this)]
          exact this
    · rw [if_pos e2] at h2
      rw [if_pos (by rw [e1]; exact e2), e1]
      exact h2
  · rw [if_pos e1] at h1
    have g1 := of_decide_eq_true h1
    by_cases e2 : b.d = c.d
    · rw [if_pos (by omega)]
      exact decide_eq_true (by omega)
    · rw [if_pos e2] at h2
      have g2 := of_decide_eq_true h2
      rw [if_pos (by omega)]
      exact decide_eq_true (by omega)
end Go.Proofs.YthflmdgfenojcaaGreatDoor
