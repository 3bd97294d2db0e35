/- A file with a changed byte is rejected: the plain law. No walk. -/
import Derived.Test.YthflmdgfenojcaaGreatDoorDdf
import Derived.Test.YthflmdgfenojcaaGreatDoorC7Plain3
namespace Go.Proofs.YthflmdgfenojcaaGreatDoor
set_option linter.unusedVariables false
open Go.RowKit

theorem join_last (c : UInt8) : ∀ (r : List (List UInt8)) (x : List UInt8), ∃ pre, Lib.join (x :: r) [c] = pre ++ (x :: r).getLast (by simp)
  | [], x => ⟨[], by rw [join_one]; rfl⟩
  | y :: r, x => by
    obtain ⟨pre, h⟩ := join_last c r y
    refine ⟨x ++ c :: pre, ?_⟩
    rw [join_cons2, h, List.getLast_cons_cons]
    simp
theorem cut_last (c : UInt8) (l : List UInt8) : ∃ pre, l = pre ++ (cutL c l).getLast (cutL_ne c l) := by
  have h := join_cut c l
  obtain ⟨x, r, hx⟩ : ∃ x r, cutL c l = x :: r := ⟨_, _, cutL_form c l⟩
  obtain ⟨pre, hp⟩ := join_last c r x
  refine ⟨pre, ?_⟩
  have e : (cutL c l).getLast (cutL_ne c l) = (x :: r).getLast (by simp) := by congr 1
  rw [e, ← hp, ← hx, h]
theorem last_line (s : ByteArray) : ∃ pre, (bodyOf s).data.toList = pre ++ (ckL s).data.toList := by
  obtain ⟨pre, h⟩ := cut_last 10 (bodyOf s).data.toList
  refine ⟨pre, ?_⟩
  have e : (cutL 10 (bodyOf s).data.toList).getLast (cutL_ne 10 _) = (ckL s).data.toList := by
    have hd := lnS_data (bodyOf s)
    have hne : lnS (bodyOf s) ≠ [] := by intro q; have := lnS_len (bodyOf s); rw [q] at this; simp at this
    have e1 : (ckL s) = (lnS (bodyOf s)).getLast hne := by
      have hl : 0 < (lnS (bodyOf s)).length := List.length_pos_iff.2 hne
      unfold ckL lnAt prt nLn
      rw [List.getD_eq_getElem?_getD, List.getElem?_eq_getElem (by omega), Option.getD_some, List.getLast_eq_getElem]
    rw [e1]
    simp only [← hd]
    rw [List.getLast_map]
  rw [← e]; exact h
theorem suffix_form {s : ByteArray} (h : Lib.hasSuffix s.data.toList [10] = true) : s.data.toList = (bodyOf s).data.toList ++ [10] ∧ (bodyOf s).data.toList.length + 1 = s.size := by
  unfold Lib.hasSuffix at h
  obtain ⟨p, hp⟩ := List.isSuffixOf_iff_suffix.1 h
  have hz : s.size = p.length + 1 := by rw [Lib.size_eq, ← hp]; simp
  have e : (bodyOf s).data.toList = p := by
    unfold bodyOf
    rw [Lib.extract_data, ← hp, hz]
    simp
  rw [e]
  exact ⟨hp.symm, by omega⟩
theorem cov_form {s : ByteArray} (h : Lib.hasSuffix s.data.toList [10] = true) : s.data.toList = (cov s).data.toList ++ ((ckL s).data.toList ++ [10]) := by
  obtain ⟨h1, h2⟩ := suffix_form h
  obtain ⟨pre, hp⟩ := last_line s
  have e : (cov s).data.toList = pre := by
    unfold cov
    rw [Lib.extract_data, h1, hp]
    have : (ckL s).size = (ckL s).data.toList.length := rfl
    rw [hp, List.length_append] at h2
    rw [List.drop_zero, this, List.append_assoc, List.take_append_of_le_length (by omega), List.take_of_length_le (by omega)]
  rw [e, h1, hp, List.append_assoc]
theorem ck_form {s : ByteArray} (h : CkF s) : (ckL s).data.toList = [67, 124] ++ (ckD s).data.toList ∧ (ckD s).data.toList.length = 8 := by
  obtain ⟨h1, h2⟩ := h
  unfold Lib.hasPrefix at h1
  obtain ⟨p, hp⟩ := List.isPrefixOf_iff_prefix.1 h1
  have e : (ckD s).data.toList = p := by
    unfold ckD
    rw [Lib.extract_to_end, ← hp]; rfl
  unfold isCk at h2
  rw [Bool.and_eq_true, decide_eq_true_eq] at h2
  refine ⟨by rw [e, hp], h2.1⟩
theorem chkL_form (l : List UInt8) : chkL l = [67, 124] ++ (text8 (C7.crcOf l) ++ [10]) := by
  unfold chkL lineL crcS
  rw [show ([(⟨#[67]⟩ : ByteArray), ⟨(text8 (C7.crcOf l)).toArray⟩] : List ByteArray).length = 1 + 1 from rfl, joinK_succ _ 1 (by omega) (by simp), joinK_one _ (by simp)]
  simp [strAt]
theorem crcOf_lt (l : List UInt8) : C7.crcOf l < 4294967296 := by
  unfold C7.crcOf
  exact Nat.xor_lt_two_pow (n := 32) (C7.crcReg_lt l _ (by omega)) (by omega)
theorem file_zero {s : ByteArray} (h : fileE s = 0) : Lib.hasSuffix s.data.toList [10] = true ∧ FormF s ∧ ckD s = crcS (cov s).data.toList ∧ TotF s ∧ nRc s ≤ 200 ∧ headE (hdP s 1) (hdP s 2) (numV (hdP s 3)) = 0 ∧ 3 ≤ Lib.countB s lfS := by
  unfold fileE at h
  split at h
  · rename_i q; exact absurd h q
  · rename_i q
    have hd : divE s = 0 := by omega
    unfold divE at hd
    split at hd
    · cases hd
    · rename_i q3
      split at hd
      · rename_i q1
        unfold exaE at h
        split at h
        · cases h
        · rename_i q4
          split at h
          · cases h
          · rename_i q5
            split at h
            · cases h
            · rename_i q6
              exact ⟨q1.1, q1.2, Decidable.not_not.1 q4, Decidable.not_not.1 q5, by omega, h, by omega⟩
      · cases hd
/-- One changed byte: the file is rejected. -/
theorem det_plain (L : List UInt8) (i : Nat) (x : UInt8) (hi : i < (L ++ chkL L).length) (hx : x ≠ (L ++ chkL L)[i]) : fileE ⟨((L ++ chkL L).set i x).toArray⟩ ≠ 0 := by
  intro h
  obtain ⟨h1, ⟨_, hck, _, _⟩, hd, _⟩ := file_zero h
  have hc := cov_form h1
  obtain ⟨k1, k2⟩ := ck_form hck
  have hD : (ckD ⟨((L ++ chkL L).set i x).toArray⟩).data.toList = text8 (C7.crcOf (cov ⟨((L ++ chkL L).set i x).toArray⟩).data.toList) := by
    rw [hd]; rfl
  rw [k1, hD] at hc
  generalize (cov ⟨((L ++ chkL L).set i x).toArray⟩).data.toList = C at hc
  have e0 : (⟨((L ++ chkL L).set i x).toArray⟩ : ByteArray).data.toList = (L ++ chkL L).set i x := rfl
  rw [e0, List.append_assoc, ← chkL_form] at hc
  have hlen : ∀ l, (chkL l).length = 11 := fun l => by rw [chkL_form]; simp [text8_len]
  have hcl : L.length = C.length := by
    have := congrArg List.length hc
    simp only [List.length_set, List.length_append, hlen] at this
    omega
  rcases Nat.lt_or_ge i L.length with c | c
  · rw [List.set_append_left _ _ c] at hc
    obtain ⟨a1, a2⟩ := List.append_inj hc (by rw [List.length_set]; exact hcl)
    rw [chkL_form, chkL_form] at a2
    have a3 : text8 (C7.crcOf L) = text8 (C7.crcOf C) := by
      have := List.append_cancel_left a2
      exact List.append_cancel_right this
    have a4 := text8_inj _ _ (crcOf_lt _) (crcOf_lt _) a3
    have hy : (L[i]).toNat ^^^ ((L[i]).toNat ^^^ x.toNat) = x.toNat := by rw [← Nat.xor_assoc, Nat.xor_self, Nat.zero_xor]
    have hn := C7.numOf_set' L i c x ((L[i]).toNat ^^^ x.toNat) hy.symm
    have hB : (L[i]).toNat ^^^ x.toNat < 4294967296 := Nat.lt_trans (Nat.xor_lt_two_pow (n := 8) (UInt8.toNat_lt _) (UInt8.toNat_lt _)) (by omega)
    have := (C7.crcReg_diff L (L.set i x) (by simp) (8 * i) _ hB (by omega) hn).1 (by rw [a1, a4])
    have e : (L[i]).toNat = x.toNat := by
      have q := congrArg (fun z => (L[i]).toNat ^^^ z) this
      simp only [Nat.xor_zero] at q
      rw [hy] at q; exact q.symm
    exact hx (by rw [List.getElem_append_left c]; exact (UInt8.toNat_inj.1 e).symm)
  · rw [List.set_append_right _ _ c] at hc
    obtain ⟨a1, a2⟩ := List.append_inj hc hcl
    rw [← a1] at a2
    have hj : i - L.length < (chkL L).length := by rw [List.length_append] at hi; omega
    have e : ((chkL L).set (i - L.length) x)[i - L.length]'(by rw [List.length_set]; exact hj) = (chkL L)[i - L.length] := by simp only [a2]
    rw [List.getElem_set_self] at e
    exact hx (by rw [List.getElem_append_right c]; exact e)
end Go.Proofs.YthflmdgfenojcaaGreatDoor
