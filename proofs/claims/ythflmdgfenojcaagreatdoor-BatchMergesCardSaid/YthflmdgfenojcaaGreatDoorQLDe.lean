/- Part of the proof over this seat. -/
import Derived.Test.YthflmdgfenojcaaGreatDoorQAwb
namespace Go.Proofs.YthflmdgfenojcaaGreatDoor
set_option linter.unusedVariables false
open Go.RowKit Go.Sort Go.Maps
theorem bodyK_lenM {b : Bat} {M : Nat} (hM : 20 ≤ M) (hi : b.id.size ≤ M) (hs : b.sd.size ≤ M) (hd : -9223372036854775808 ≤ b.dt ∧ b.dt ≤ 9223372036854775807) (hr : ∀ j, j < b.rs.length → (encS (rcAt b.rs j)).size ≤ M) : ∀ k, k ≤ b.rs.length → (bodyK b k).length ≤ (4 * (M + 1) + 1) + k * (2 * (M + 1) + 1)
  | 0, _ => by
    unfold bodyK hdrL
    have := lineL_len [⟨#[72]⟩, b.id, b.sd, itoS b.dt] M (hsz4 (by show 1 ≤ M; omega) hi hs (Nat.le_trans (itoS_size _ hd) hM))
    simp only [List.take_zero, List.flatMap_nil, List.append_nil]
    exact Nat.le_trans this (by simp)
  | k + 1, h => by
    have ih := bodyK_lenM hM hi hs hd hr k (by omega)
    rw [bodyK_succ b k (by omega), List.length_append]
    have := lineL_len [⟨#[82]⟩, encS (rcAt b.rs k)] M (hsz2 (by show 1 ≤ M; omega) (hr k (by omega)))
    unfold recL'
    have e : ([⟨#[82]⟩, encS (rcAt b.rs k)] : List ByteArray).length = 2 := rfl
    rw [e] at this
    have e2 : (k + 1) * (2 * (M + 1) + 1) = k * (2 * (M + 1) + 1) + (2 * (M + 1) + 1) := Nat.succ_mul _ _
    rw [e2]
    generalize k * (2 * (M + 1) + 1) = X at *
    omega
theorem boB_parts {b : Bat} (h : boB b = true) : b.id.size ≤ 500 ∧ b.sd.size ≤ 500 ∧ b.rs.length ≤ 240 ∧ ∀ x ∈ b.rs, szR x ≤ 500 := by
  unfold boB at h
  simp only [Bool.and_eq_true, decide_eq_true_eq] at h
  have := few_all h.2.2
  exact ⟨h.1, h.2.1, this.1, this.2⟩
theorem chkL_len (l : List UInt8) : (chkL l).length = 11 := by rw [chkL_form]; simp [text8_len]
theorem text_le {b : Bat} (h : chkB b = 0) (hb : boB b = true) : (encB b).size ≤ 1000000 := by
  obtain ⟨z1, z2, z3⟩ := chkB_zero h
  obtain ⟨i1, i2, i3, i4⟩ := headE_zero z1
  obtain ⟨p1, p2, p3, p4⟩ := boB_parts hb
  have hB := bodyK_lenM (b := b) (M := 1000) (by omega) (by omega) (by omega) (by omega) (fun j hj => by
    have h1 := encS_size' (ptL_zero (z3 j hj)).1
    have h2 := p4 (rcAt b.rs j) (by rw [rcAt_get _ _ hj]; exact List.getElem_mem hj)
    omega) b.rs.length (Nat.le_refl _)
  have hd := deb_lt z2
  have ht := C7.totB_lt (cardsOf b.rs)
  have hT := lineL_len [⟨#[84]⟩, itoS b.rs.length, itoS (debS b.rs b.rs.length), itoS (creS b.rs b.rs.length), itoS (C7.totB (cardsOf b.rs))] 1000 (hsz5 (by decide) (Nat.le_trans (itoS_size _ (by omega)) (by omega)) (Nat.le_trans (itoS_size _ (by omega)) (by omega)) (Nat.le_trans (itoS_size _ (by omega)) (by omega)) (Nat.le_trans (itoS_size _ (by omega)) (by omega)))
  have e5 : ([⟨#[84]⟩, itoS b.rs.length, itoS (debS b.rs b.rs.length), itoS (creS b.rs b.rs.length), itoS (C7.totB (cardsOf b.rs))] : List ByteArray).length = 5 := rfl
  rw [e5] at hT
  rw [Lib.size_eq, enc_data h, textL, List.length_append, chkL_len]
  unfold bodyL
  rw [List.length_append]
  unfold trlL
  have hm : b.rs.length * (2 * (1000 + 1) + 1) ≤ 200 * (2 * (1000 + 1) + 1) := Nat.mul_le_mul_right _ z2
  omega
end Go.Proofs.YthflmdgfenojcaaGreatDoor
