/- Files of records: what Check and Encode compute, in plain. No walk. -/
import Derived.Test.YthflmdgfenojcaaGreatDoorLws
import Derived.Test.YthflmdgfenojcaaGreatDoorC7Plain3
import Derived.Test.YthflmdgfenojcaaGreatDoorRws
import Derived.Test.YthflmdgfenojcaaGreatDoorHx
namespace Go.Proofs.YthflmdgfenojcaaGreatDoor
set_option linter.unusedVariables false
open Go.RowKit

/-- The first number that is not 0 among f 0 .. f (n - 1), or 0. -/
def firstE (f : Nat → Int) : Nat → Int
  | 0 => 0
  | n + 1 => if firstE f n ≠ 0 then firstE f n else f n
theorem firstE_zero (f : Nat → Int) : ∀ n, (∀ j, j < n → f j = 0) → firstE f n = 0
  | 0, _ => rfl
  | n + 1, h => by
    unfold firstE
    rw [firstE_zero f n (fun j hj => h j (by omega)), if_neg (by simp)]; exact h n (by omega)
theorem firstE_at (f : Nat → Int) (k : Nat) : ∀ n, k < n → (∀ j, j < k → f j = 0) → f k ≠ 0 → firstE f n = f k
  | 0, h, _, _ => absurd h (Nat.not_lt_zero _)
  | n + 1, h, h0, h1 => by
    unfold firstE
    rcases Nat.lt_or_ge k n with q | q
    · rw [firstE_at f k n q h0 h1, if_pos h1]
    · obtain rfl : k = n := by omega
      rw [firstE_zero f k h0, if_neg (by simp)]
theorem firstE_all (f : Nat → Int) : ∀ n, firstE f n = 0 → ∀ j, j < n → f j = 0
  | 0, _, j, hj => absurd hj (Nat.not_lt_zero _)
  | n + 1, h, j, hj => by
    unfold firstE at h
    split at h
    · rename_i q; exact absurd h q
    · rename_i q
      have q' : firstE f n = 0 := by omega
      rcases Nat.lt_or_ge j n with c | c
      · exact firstE_all f n q' j c
      · obtain rfl : j = n := by omega
        exact h
/-- A file of records. -/
structure Bat where
  id : ByteArray
  sd : ByteArray
  dt : Int
  rs : List Rec
def idsOf (l : List Rec) : List ByteArray := l.map fun r => r.id
instance (x : ByteArray) (l : List ByteArray) : Decidable (x ∈ l) := decidable_of_iff (l.any (fun y => decide (y = x)) = true) (by simp)
/-- What is wrong with the record k of a list. -/
def ptL (sd : ByteArray) (rs : List Rec) (k : Nat) : Int :=
  if chkE (rcAt rs k) ≠ 0 then chkE (rcAt rs k) else if (rcAt rs k).aq ≠ sd then 5 else if (rcAt rs k).id ∈ idsOf (rs.take k) then 7 else 0
def headE (id sd : ByteArray) (dt : Int) : Int := if idB id = true ∧ nameB sd.data.toList = true then (if 0 ≤ dt ∧ dt ≤ 99999 then 0 else 14) else 5
def chkB (b : Bat) : Int := if headE b.id b.sd b.dt ≠ 0 then headE b.id b.sd b.dt else if 200 < b.rs.length then 3 else firstE (ptL b.sd b.rs) b.rs.length
theorem idsOf_succ (l : List Rec) (k : Nat) (h : k < l.length) : idsOf (l.take (k + 1)) = idsOf (l.take k) ++ [(rcAt l k).id] := by
  unfold idsOf; rw [List.take_succ_eq_append_getElem h, List.map_append, rcAt_get l k h]; rfl
theorem ptL_chk {sd : ByteArray} {rs : List Rec} {k : Nat} (h : chkE (rcAt rs k) ≠ 0) : ptL sd rs k = chkE (rcAt rs k) := by unfold ptL; rw [if_pos h]
theorem ptL_aq {sd : ByteArray} {rs : List Rec} {k : Nat} (h : chkE (rcAt rs k) = 0) (h2 : (rcAt rs k).aq ≠ sd) : ptL sd rs k = 5 := by unfold ptL; rw [if_neg (by simp [h]), if_pos h2]
theorem ptL_id {sd : ByteArray} {rs : List Rec} {k : Nat} (h : chkE (rcAt rs k) = 0) (h2 : (rcAt rs k).aq = sd) (h3 : (rcAt rs k).id ∈ idsOf (rs.take k)) : ptL sd rs k = 7 := by unfold ptL; rw [if_neg (by simp [h]), if_neg (by simp [h2]), if_pos h3]
theorem ptL_ok {sd : ByteArray} {rs : List Rec} {k : Nat} (h : chkE (rcAt rs k) = 0) (h2 : (rcAt rs k).aq = sd) (h3 : ¬ (rcAt rs k).id ∈ idsOf (rs.take k)) : ptL sd rs k = 0 := by unfold ptL; rw [if_neg (by simp [h]), if_neg (by simp [h2]), if_neg h3]
theorem ptL_zero {sd : ByteArray} {rs : List Rec} {k : Nat} (h : ptL sd rs k = 0) : chkE (rcAt rs k) = 0 ∧ (rcAt rs k).aq = sd ∧ ¬ (rcAt rs k).id ∈ idsOf (rs.take k) := by
  unfold ptL at h
  split at h
  · rename_i q; exact absurd h q
  · rename_i q
    split at h
    · cases h
    · rename_i q2
      split at h
      · cases h
      · rename_i q3
        exact ⟨by omega, Decidable.not_not.1 q2, q3⟩
theorem headE_zero {id sd : ByteArray} {dt : Int} (h : headE id sd dt = 0) : idB id = true ∧ nameB sd.data.toList = true ∧ 0 ≤ dt ∧ dt ≤ 99999 := by
  unfold headE at h
  split at h
  · rename_i q
    split at h
    · rename_i q2; exact ⟨q.1, q.2, q2⟩
    · cases h
  · cases h
theorem chkB_zero {b : Bat} (h : chkB b = 0) : headE b.id b.sd b.dt = 0 ∧ b.rs.length ≤ 200 ∧ ∀ k, k < b.rs.length → ptL b.sd b.rs k = 0 := by
  unfold chkB at h
  split at h
  · rename_i q; exact absurd h q
  · rename_i q
    split at h
    · cases h
    · rename_i q2
      exact ⟨by omega, by omega, firstE_all _ _ h⟩
theorem chkB_ok {b : Bat} (h : headE b.id b.sd b.dt = 0) (h2 : b.rs.length ≤ 200) (h3 : ∀ k, k < b.rs.length → ptL b.sd b.rs k = 0) : chkB b = 0 := by
  unfold chkB
  rw [if_neg (by simp [h]), if_neg (by omega), firstE_zero _ _ h3]
/-! ### lines -/
def strAt (ps : List ByteArray) (k : Nat) : ByteArray := ps.getD k ByteArray.empty
theorem strAt_get (ps : List ByteArray) (k : Nat) (h : k < ps.length) : strAt ps k = ps[k] := by unfold strAt; simp [h]
/-- The first k parts, with bars between them. -/
def joinK (ps : List ByteArray) (k : Nat) : List UInt8 := Lib.join ((ps.take k).map (·.data.toList)) [124]
def lineL (ps : List ByteArray) : List UInt8 := joinK ps ps.length ++ [10]
theorem joinK_zero (ps : List ByteArray) : joinK ps 0 = [] := rfl
theorem joinK_one (ps : List ByteArray) (h : 0 < ps.length) : joinK ps 1 = (strAt ps 0).data.toList := by
  cases ps with
  | nil => exact absurd h (Nat.not_lt_zero _)
  | cons x r => exact Lib.join_one _ _
theorem joinK_succ (ps : List ByteArray) (k : Nat) (h0 : 0 < k) (h : k < ps.length) : joinK ps (k + 1) = joinK ps k ++ [124] ++ (strAt ps k).data.toList := by
  cases ps with
  | nil => exact absurd h (Nat.not_lt_zero _)
  | cons x r =>
    obtain ⟨j, rfl⟩ : ∃ j, k = j + 1 := ⟨k - 1, by omega⟩
    have hj : j < r.length := by simpa using h
    have hg : (r.map (·.data.toList))[j]? = some ((strAt (x :: r) (j + 1)).data.toList) := by
      rw [strAt_get _ _ h, List.getElem?_map, List.getElem?_eq_getElem hj]; rfl
    unfold joinK
    simp only [List.take_succ_cons, List.map_cons, Lib.join_cons, List.map_take]
    rw [Lib.joinTail_take_succ _ _ j _ hg]
    simp [List.append_assoc]
theorem joinK_len (ps : List ByteArray) (M : Nat) (hM : ∀ i, i < ps.length → (strAt ps i).size ≤ M) : ∀ k, k ≤ ps.length → (joinK ps k).length ≤ k * (M + 1)
  | 0, _ => by rw [joinK_zero]; simp
  | k + 1, h => by
    have ih := joinK_len ps M hM k (by omega)
    have hm := hM k (by omega)
    have e : (strAt ps k).data.toList.length = (strAt ps k).size := rfl
    rcases Nat.eq_zero_or_pos k with h0 | h0
    · subst h0
      rw [joinK_one ps (by omega), e]; omega
    · rw [joinK_succ ps k h0 (by omega)]
      simp only [List.length_append, List.length_singleton, e]
      rw [Nat.succ_mul]; omega
theorem lineL_len (ps : List ByteArray) (M : Nat) (hM : ∀ i, i < ps.length → (strAt ps i).size ≤ M) : (lineL ps).length ≤ ps.length * (M + 1) + 1 := by
  have := joinK_len ps M hM ps.length (Nat.le_refl _)
  unfold lineL; simp; omega
def charS (c : UInt8) : ByteArray := ⟨#[c]⟩
def hdrL (id sd : ByteArray) (dt : Int) : List UInt8 := lineL [⟨#[72]⟩, id, sd, itoS dt]
def recL' (r : Rec) : List UInt8 := lineL [⟨#[82]⟩, encS r]
def trlL (n : Nat) (d c h : Int) : List UInt8 := lineL [⟨#[84]⟩, itoS n, itoS d, itoS c, itoS h]
def crcS (l : List UInt8) : ByteArray := ⟨(text8 (C7.crcOf l)).toArray⟩
def chkL (l : List UInt8) : List UInt8 := lineL [⟨#[67]⟩, crcS l]
/-- The header and the first k record lines. -/
def bodyK (b : Bat) (k : Nat) : List UInt8 := hdrL b.id b.sd b.dt ++ (b.rs.take k).flatMap recL'
def bodyL (b : Bat) : List UInt8 := bodyK b b.rs.length ++ trlL b.rs.length (debS b.rs b.rs.length) (creS b.rs b.rs.length) (C7.totB (cardsOf b.rs))
def textL (b : Bat) : List UInt8 := bodyL b ++ chkL (bodyL b)
def encB (b : Bat) : ByteArray := if chkB b = 0 then ⟨(textL b).toArray⟩ else ⟨#[]⟩
theorem bodyK_succ (b : Bat) (k : Nat) (h : k < b.rs.length) : bodyK b (k + 1) = bodyK b k ++ recL' (rcAt b.rs k) := by
  unfold bodyK
  rw [List.take_succ_eq_append_getElem h, List.flatMap_append, rcAt_get b.rs k h]
  simp
/-! ### sizes -/
theorem nd_pow (k : Nat) : ∀ u, 1 ≤ k → u < 10 ^ k → Lib.nDigits u ≤ k := by
  induction k with
  | zero => intro u h; omega
  | succ k ih =>
    intro u _ hu
    rw [Lib.nDigits]
    split
    · omega
    · rcases Nat.eq_zero_or_pos k with h0 | h0
      · subst h0; simp at hu; omega
      · have := ih (u / 10) h0 (by rw [Nat.pow_succ] at hu; omega)
        omega
theorem itoS_size (v : Int) (h : -9223372036854775808 ≤ v ∧ v ≤ 9223372036854775807) : (itoS v).size ≤ 20 := by
  have hd : Lib.nDigits v.natAbs ≤ 19 := nd_pow 19 _ (by omega) (by omega)
  show (Lib.itoa v).toArray.size ≤ 20
  rw [List.size_toArray]
  unfold Lib.itoa
  have e1 := Lib.decDigits_length v.natAbs
  split
  · rw [List.length_cons, e1]; omega
  · rename_i q
    have : v.toNat = v.natAbs := by omega
    rw [this, e1]; omega
end Go.Proofs.YthflmdgfenojcaaGreatDoor
