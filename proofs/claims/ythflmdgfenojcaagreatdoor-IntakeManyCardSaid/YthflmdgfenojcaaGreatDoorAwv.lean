/- The values of the chapter's examples. -/
import Derived.Test.YthflmdgfenojcaaGreatDoorLws
namespace Go.Proofs.YthflmdgfenojcaaGreatDoor
set_option linter.unusedVariables false
open Go.RowKit

def joinS (L : List ByteArray) : ByteArray := ⟨(Lib.join (L.map (·.data.toList)) [124]).toArray⟩
theorem cut_list (x : ByteArray) (L : List ByteArray) (h : ∀ y ∈ x :: L, ∀ b ∈ y.data.toList, b ≠ 124) : cutS (joinS (x :: L)) = x :: L := by
  apply map_inj
  rw [cutS_data]
  show cutL 124 (Lib.join ((x :: L).map (·.data.toList)) [124]) = _
  refine cut_join 124 _ _ ?_
  intro y hy
  obtain ⟨z, hz, rfl⟩ := List.mem_map.1 (show y ∈ (x :: L).map (·.data.toList) from hy)
  exact h z hz
theorem ito1 : itoS 1 = ⟨#[49]⟩ := by simp [itoS, Lib.itoa, Lib.decDigits]
theorem ito12 : itoS 12 = ⟨#[49, 50]⟩ := by simp [itoS, Lib.itoa, Lib.decDigits]
theorem ito1000 : itoS 1000 = ⟨#[49, 48, 48, 48]⟩ := by simp [itoS, Lib.itoa, Lib.decDigits]
theorem ito5411 : itoS 5411 = ⟨#[53, 52, 49, 49]⟩ := by simp [itoS, Lib.itoa, Lib.decDigits]
theorem samp_texts : (sampR 1).texts = [⟨#[49]⟩, (sampR 1).id, (sampR 1).au, (sampR 1).aq, (sampR 1).iss, (sampR 1).me, (sampR 1).ca, ⟨#[49, 48, 48, 48]⟩, (sampR 1).cu, ⟨#[49, 50]⟩, ⟨#[53, 52, 49, 49]⟩, ⟨#[49]⟩] := by
  show [itoS 1, _, _, _, _, _, _, itoS 1000, _, itoS 12, itoS 5411, finS true] = _
  rw [ito1, ito1000, ito12, ito5411]; rfl
def txt1 : ByteArray := ⟨#[49, 124, 48, 48, 48, 48, 48, 49, 48, 48, 48, 48, 48, 55, 45, 49, 124, 48, 48, 48, 48, 48, 49, 48, 48, 48, 48, 48, 55, 124, 115, 104, 111, 112, 98, 97, 110, 107, 124, 104, 111, 109, 101, 98, 97, 110, 107, 124, 83, 72, 79, 80, 49, 124, 52, 48, 48, 48, 48, 48, 48, 48, 48, 48, 48, 48, 48, 48, 55, 55, 124, 49, 48, 48, 48, 124, 69, 85, 82, 124, 49, 50, 124, 53, 52, 49, 49, 124, 49]⟩
def txt2 : ByteArray := ⟨#[49, 124, 48, 48, 48, 48, 48, 49, 48, 48, 48, 48, 48, 55, 45, 49, 124, 48, 48, 48, 48, 48, 49, 48, 48, 48, 48, 48, 55, 124, 115, 104, 111, 112, 98, 97, 110, 107, 124, 104, 111, 109, 101, 98, 97, 110, 107, 124, 83, 72, 79, 80, 49, 124, 52, 48, 48, 48, 48, 48, 48, 48, 48, 48, 48, 48, 48, 48, 55, 55, 124, 48, 49, 48, 48, 48, 124, 69, 85, 82, 124, 49, 50, 124, 53, 52, 49, 49, 124, 49]⟩
def txt3 : ByteArray := ⟨#[49, 124, 48, 48, 48, 48, 48, 49, 48, 48, 48, 48, 48, 55, 45, 49, 124, 48, 48, 48, 48, 48, 49, 48, 48, 48, 48, 48, 55, 124, 115, 104, 111, 112, 98, 97, 110, 107, 124, 104, 111, 109, 101, 98, 97, 110, 107, 124, 83, 72, 79, 80, 49, 124, 52, 48, 48, 48, 48, 48, 48, 48, 48, 48, 48, 48, 48, 48, 55, 55, 124, 49, 48, 48, 48, 124, 101, 117, 114, 124, 49, 50, 124, 53, 52, 49, 49, 124, 49]⟩
theorem enc1 : encS (sampR 1) = txt1 := by
  unfold encS
  rw [samp_texts]
  kernel_rfl
theorem chk1 : chkE (sampR 1) = 0 := by kernel_rfl
theorem chk2 : chkE (sampR 2) = 0 := by kernel_rfl
theorem chk5 : chkE (sampR 5) = 4 := by kernel_rfl
def list2 : List ByteArray := [⟨#[49]⟩, (sampR 1).id, (sampR 1).au, (sampR 1).aq, (sampR 1).iss, (sampR 1).me, (sampR 1).ca, ⟨#[48, 49, 48, 48, 48]⟩, (sampR 1).cu, ⟨#[49, 50]⟩, ⟨#[53, 52, 49, 49]⟩, ⟨#[49]⟩]
def rec3 : Rec := { sampR 1 with cu := ⟨#[101, 117, 114]⟩ }
def list3 : List ByteArray := [⟨#[49]⟩, (sampR 1).id, (sampR 1).au, (sampR 1).aq, (sampR 1).iss, (sampR 1).me, (sampR 1).ca, ⟨#[49, 48, 48, 48]⟩, ⟨#[101, 117, 114]⟩, ⟨#[49, 50]⟩, ⟨#[53, 52, 49, 49]⟩, ⟨#[49]⟩]
theorem txt2_join : joinS list2 = txt2 := by kernel_rfl
theorem txt3_join : joinS list3 = txt3 := by kernel_rfl
theorem cut2 : cutS txt2 = list2 := by
  rw [← txt2_join]
  exact cut_list _ _ (by decide)
theorem cut3 : cutS txt3 = list3 := by
  rw [← txt3_join]
  exact cut_list _ _ (by decide)
theorem num01000 : numOK ⟨#[48, 49, 48, 48, 48]⟩ = false := by
  cases h : numOK ⟨#[48, 49, 48, 48, 48]⟩ with
  | false => rfl
  | true =>
    have h1 : numR ⟨#[48, 49, 48, 48, 48]⟩ = some (numV ⟨#[48, 49, 48, 48, 48]⟩) := by
      unfold numOK at h
      unfold numV
      cases hn : numR ⟨#[48, 49, 48, 48, 48]⟩ with
      | none => rw [hn] at h; cases h
      | some v => rfl
    obtain ⟨h2, h3⟩ := numR_some h1
    have h4 : Lib.parseIntB 64 (ByteArray.data ⟨#[48, 49, 48, 48, 48]⟩).toList = .ok 1000 := by decide
    rw [h4] at h2
    injection h2 with h2
    rw [← h2, ito1000] at h3
    exact absurd h3 (by decide)
theorem dec2 : decE txt2 = 2 := by
  unfold decE
  rw [cut2, if_neg]
  unfold formB numsB
  rw [show prt list2 7 = ⟨#[48, 49, 48, 48, 48]⟩ from rfl, num01000]
  simp
theorem nums {s : ByteArray} {v : Int} (h : itoS v = s) (hr : -9223372036854775808 ≤ v ∧ v ≤ 9223372036854775807) : numV s = v ∧ numOK s = true := by rw [← h]; exact numV_ito hr
theorem dec3 : decE txt3 = 11 := by
  have n0 := nums ito1 (by decide)
  have n7 := nums ito1000 (by decide)
  have n9 := nums ito12 (by decide)
  have n10 := nums ito5411 (by decide)
  have hf : formB list3 = true := by
    unfold formB numsB
    rw [show prt list3 0 = ⟨#[49]⟩ from rfl, show prt list3 7 = ⟨#[49, 48, 48, 48]⟩ from rfl, show prt list3 9 = ⟨#[49, 50]⟩ from rfl, show prt list3 10 = ⟨#[53, 52, 49, 49]⟩ from rfl, n0.2, n7.2, n9.2, n10.2]
    decide
  have hr : recL list3 = rec3 := by
    unfold recL
    rw [show prt list3 0 = ⟨#[49]⟩ from rfl, show prt list3 7 = ⟨#[49, 48, 48, 48]⟩ from rfl, show prt list3 9 = ⟨#[49, 50]⟩ from rfl, show prt list3 10 = ⟨#[53, 52, 49, 49]⟩ from rfl, n0.1, n7.1, n9.1, n10.1]
    rw [show decide (prt list3 11 = oneS) = true by decide]
    rfl
  have hc : chkE rec3 = 11 := by kernel_rfl
  unfold decE
  rw [cut3, if_pos hf, hr, hc]
theorem dec1 : decE txt1 = 0 ∧ decV txt1 = sampR 1 := by rw [← enc1]; exact dec_enc chk1
theorem encv1 : encV (sampR 1) = txt1 := by unfold encV; rw [if_pos chk1, enc1]
theorem deb1 : debV (sampR 1) = 1000 := by unfold debV; rw [if_pos chk1]; rfl
theorem deb2 : debV (sampR 2) = -1000 := by unfold debV; rw [if_pos chk2]; rfl
theorem samp_fit (k : Int) : (sampR k).Fit := by
  have h : ∀ n, n ≤ 100 → n ≤ maxLen := fun n q => by have : maxLen = 2 ^ 63 - 1 := rfl; omega
  exact ⟨h _ (show 14 ≤ 100 by decide), h _ (show 12 ≤ 100 by decide), h _ (show 8 ≤ 100 by decide), h _ (show 8 ≤ 100 by decide), h _ (show 5 ≤ 100 by decide), h _ (show 16 ≤ 100 by decide), h _ (show 3 ≤ 100 by decide)⟩
end Go.Proofs.YthflmdgfenojcaaGreatDoor
