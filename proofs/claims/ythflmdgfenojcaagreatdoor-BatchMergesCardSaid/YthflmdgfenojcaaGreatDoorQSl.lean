/- Part of the proof over this seat. -/
import Derived.WalkLawsBesides
import Derived.Sort.Walk0
import Derived.Test.YthflmdgfenojcaaGreatDoorQDec
namespace Go.Proofs.YthflmdgfenojcaaGreatDoor
set_option linter.unusedVariables false
open Go.RowKit Go.Sort
def BPost (v : Bool) (w : World) (e : Ending) (w' : World) : Prop := e = .returned (.bool v) ∧ Below w.heap.size w w'
theorem str_eq {a b : ByteArray} (h : a = b) : (a.toList == b.toList) = true ∧ a.toList = b.toList := by subst h; simp
theorem str_ne {a b : ByteArray} (h : a ≠ b) : (a.toList == b.toList) = false ∧ ¬ a.toList = b.toList := by
  have h1 := ba_diff a b h
  exact ⟨h1, by simpa using h1⟩
end Go.Proofs.YthflmdgfenojcaaGreatDoor
namespace Go.Proofs.YthflmdgfenojcaaGreatDoor
set_option linter.unusedVariables false
open Go.RowKit
theorem all_ptE {r : Rec} (h : chkE r = 0) : ∀ j, j < 6 → ptE r j = 0 := by
  intro j hj
  induction j using Nat.strongRecOn with
  | _ j ih =>
    by_cases q : ptE r j = 0
    · exact q
    · have := chkE_at r j hj (fun i hi => ih i hi (by omega)) q
      omega
/-- The texts of a valid record. -/
theorem chk_texts {r : Rec} (h : chkE r = 0) : idB r.id = true ∧ (emptyB r.au = true ∨ idB r.au = true) ∧ nameB r.aq.data.toList = true ∧ nameB r.iss.data.toList = true ∧ idB r.me = true ∧ panE r.ca = 0 ∧ monE r.a r.cu = 0 := by
  have h0 := all_ptE h
  have a1 := h0 1 (by omega)
  have a2 := h0 2 (by omega)
  have a3 := h0 3 (by omega)
  simp only [ptE, namesE, cardE] at a1 a2 a3
  split at a1
  · rename_i q
    split at a2
    · rename_i q2; exact ⟨q.1, q.2.1, q.2.2.1, q.2.2.2.1, q.2.2.2.2, q2, a3⟩
    · cases a2
  · cases a1
theorem idn_no {s : ByteArray} (h : idB s = true) : ∀ b ∈ s.data.toList, b ≠ 124 := by
  intro b hb e
  subst e
  unfold idB at h
  simp only [Bool.and_eq_true, List.all_eq_true] at h
  have := h.2 _ hb
  exact absurd this (by decide)
theorem name_bar {l : List UInt8} (h : nameB l = true) : ∀ b ∈ l, b ≠ 124 := by
  intro b hb e
  subst e
  unfold nameB at h
  simp only [Bool.and_eq_true, List.all_eq_true] at h
  have := h.2 _ hb
  exact absurd this (by decide)
theorem empty_bar {s : ByteArray} (h : emptyB s = true) : ∀ b ∈ s.data.toList, b ≠ 124 := by
  intro b hb
  unfold emptyB at h
  have h0 : s.data.toList.length = 0 := by simpa using h
  rw [List.length_eq_zero_iff.1 h0] at hb; cases hb
theorem pan_bar {s : ByteArray} (h : panE s = 0) : ∀ b ∈ s.data.toList, b ≠ 124 := by
  intro b hb e
  subst e
  unfold panE at h
  split at h
  · cases h
  · split at h
    · cases h
    · split at h
      · cases h
      · rename_i q
        have hd : digsB s = true := by simpa using q
        unfold digsB at hd
        rw [List.all_eq_true] at hd
        exact absurd (hd _ hb) (by decide)
theorem cur_bar {a : Int} {s : ByteArray} (h : monE a s = 0) : ∀ b ∈ s.data.toList, b ≠ 124 := by
  intro b hb e
  subst e
  unfold monE at h
  split at h
  · rename_i q
    unfold curB at q
    simp only [Bool.and_eq_true, List.all_eq_true] at q
    exact absurd (q.2 _ hb) (by decide)
  · cases h
theorem itoS_bar (v : Int) : ∀ b ∈ (itoS v).data.toList, b ≠ 124 := itoa_no v
theorem finS_bar (f : Bool) : ∀ b ∈ (finS f).data.toList, b ≠ 124 := by cases f <;> decide
theorem map_inj {l l' : List ByteArray} (h : l.map (·.data.toList) = l'.map (·.data.toList)) : l = l' := by
  induction l generalizing l' with
  | nil => cases l' with
    | nil => rfl
    | cons x l' => cases h
  | cons x l ih =>
    cases l' with
    | nil => cases h
    | cons y l' =>
      rw [List.map_cons, List.map_cons] at h
      injection h with h1 h2
      rw [ih h2, ByteArray.ext (Array.ext' h1)]
theorem cut_enc {r : Rec} (h : chkE r = 0) : cutS (encS r) = r.texts := by
  apply map_inj
  rw [cutS_data]
  show cutL 124 (Lib.join (r.texts.map (·.data.toList)) [124]) = _
  obtain ⟨t1, t2, t3, t4, t5, t6, t7⟩ := chk_texts h
  refine cut_join 124 _ _ ?_
  intro y hy
  obtain ⟨x, hx, rfl⟩ := List.mem_map.1 (show y ∈ r.texts.map (·.data.toList) from hy)
  unfold Rec.texts at hx
  simp only [List.mem_cons, List.not_mem_nil, or_false] at hx
  rcases hx with rfl | rfl | rfl | rfl | rfl | rfl | rfl | rfl | rfl | rfl | rfl | rfl
  · exact itoS_bar _
  · exact idn_no t1
  · rcases t2 with t2 | t2
    · exact empty_bar t2
    · exact idn_no t2
  · exact name_bar t3
  · exact name_bar t4
  · exact idn_no t5
  · exact pan_bar t6
  · exact itoS_bar _
  · exact cur_bar t7
  · exact itoS_bar _
  · exact itoS_bar _
  · exact finS_bar _
theorem numV_ito {v : Int} (h : -9223372036854775808 ≤ v ∧ v ≤ 9223372036854775807) : numV (itoS v) = v ∧ numOK (itoS v) = true := by
  unfold numV numOK
  rw [numR_ito v h]; exact ⟨rfl, rfl⟩
theorem fin_end (f : Bool) : endB (finS f) = true ∧ decide (finS f = oneS) = f := by cases f <;> decide
/-- A valid record is decoded from its text. -/
theorem dec_enc {r : Rec} (h : chkE r = 0) : decE (encS r) = 0 ∧ decV (encS r) = r := by
  obtain ⟨i1, i2, i3, i4, i5, i6, i7, i8⟩ := Fit.ints r h
  have n0 := numV_ito (v := r.k) (by omega)
  have n7 := numV_ito (v := r.a) (by omega)
  have n9 := numV_ito (v := r.d) (by omega)
  have n10 := numV_ito (v := r.c) (by omega)
  have hc := cut_enc h
  have hr : recL (cutS (encS r)) = r := by
    rw [hc]
    show (⟨numV (itoS r.k), r.id, r.au, r.aq, r.iss, r.me, r.ca, numV (itoS r.a), r.cu, numV (itoS r.d), numV (itoS r.c), decide (finS r.f = oneS)⟩ : Rec) = r
    rw [n0.1, n7.1, n9.1, n10.1, (fin_end r.f).2]
  have hf : formB (cutS (encS r)) = true := by
    rw [hc]
    show (decide (r.texts.length = 12) && ((numOK (itoS r.k) && (numOK (itoS r.a) && (numOK (itoS r.d) && numOK (itoS r.c)))) && endB (finS r.f))) = true
    rw [n0.2, n7.2, n9.2, n10.2, (fin_end r.f).1]; rfl
  have he : decE (encS r) = 0 := by
    unfold decE
    rw [if_pos hf, hr, h]
  refine ⟨he, ?_⟩
  unfold decV
  rw [if_pos he, hr]
theorem num_back {s : ByteArray} (h : numOK s = true) : itoS (numV s) = s := by
  unfold numOK at h
  unfold numV
  cases hn : numR s with
  | none => rw [hn] at h; cases h
  | some v => exact (numR_some hn).2.symm
theorem end_back {p : ByteArray} (h : endB p = true) : finS (decide (p = oneS)) = p := by
  unfold endB at h
  rw [Bool.or_eq_true, decide_eq_true_eq, decide_eq_true_eq] at h
  rcases h with rfl | rfl <;> decide
/-- What is decoded is the text of a valid record. -/
theorem enc_dec {s : ByteArray} (h : decE s = 0) : chkE (decV s) = 0 ∧ encS (decV s) = s := by
  have hv : decV s = recL (cutS s) := by unfold decV; rw [if_pos h]
  unfold decE at h
  split at h
  · rename_i hf
    rw [hv]
    refine ⟨h, ?_⟩
    unfold formB numsB at hf
    simp only [Bool.and_eq_true, decide_eq_true_eq] at hf
    obtain ⟨hl, ⟨m0, m7, m9, m10⟩, hend⟩ := hf
    have ht : (recL (cutS s)).texts = cutS s := by
      obtain ⟨p0, p1, p2, p3, p4, p5, p6, p7, p8, p9, p10, p11, hp⟩ := list12 (cutS s) hl
      rw [hp] at m0 m7 m9 m10 hend ⊢
      show [itoS (numV p0), p1, p2, p3, p4, p5, p6, itoS (numV p7), p8, itoS (numV p9), itoS (numV p10), finS (decide (p11 = oneS))] = _
      rw [num_back (s := p0) m0, num_back (s := p7) m7, num_back (s := p9) m9, num_back (s := p10) m10, end_back (p := p11) hend]
    unfold encS
    rw [ht, cutS_data, join_cut]
  · cases h
end Go.Proofs.YthflmdgfenojcaaGreatDoor
