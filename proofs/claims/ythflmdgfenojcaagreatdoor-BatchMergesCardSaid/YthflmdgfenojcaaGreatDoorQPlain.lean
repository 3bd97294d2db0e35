/- Part of the proof over this seat. -/
import Derived.Lib.SplitLaws
import Derived.Lib.Join
import Derived.Lib.ParseIntB
import Derived.Lib.ItoaMem
namespace Go.Proofs.YthflmdgfenojcaaGreatDoor
set_option linter.unusedVariables false
def cutL (c : UInt8) : List UInt8 → List (List UInt8)
  | [] => [[]]
  | b :: l => if b = c then [] :: cutL c l else (b :: (cutL c l).headD []) :: (cutL c l).tail
theorem cutL_ne (c : UInt8) : ∀ l, cutL c l ≠ []
  | [] => by simp [cutL]
  | b :: l => by unfold cutL; split <;> simp
theorem cutL_form (c : UInt8) (l : List UInt8) : cutL c l = (cutL c l).headD [] :: (cutL c l).tail := by
  cases h : cutL c l with
  | nil => exact absurd h (cutL_ne c l)
  | cons x r => rfl
theorem splitK_cut (c : UInt8) : ∀ s : List UInt8, Lib.splitK [c] 0 (s.count c) s = cutL c s
  | [] => by simp [Lib.splitK, cutL]
  | b :: l => by
    have ih := splitK_cut c l
    by_cases h : b = c
    · subst h
      have hix : Lib.index (b :: l) [b] = 0 := by rw [Lib.index]; simp [List.isPrefixOf]
      rw [List.count_cons_self, Lib.splitK, hix]
      simp only [cutL, if_pos]
      simp [ih]
    · have hp : ([c] : List UInt8).isPrefixOf (b :: l) = false := by simp [List.isPrefixOf, Ne.symm h]
      have hix : Lib.index (b :: l) [c] = if Lib.index l [c] == -1 then -1 else Lib.index l [c] + 1 := by rw [Lib.index, hp]; simp
      rw [List.count_cons_of_ne (by simpa using h)]
      unfold cutL
      rw [if_neg h, ← ih]
      cases hc : l.count c with
      | zero => simp [Lib.splitK]
      | succ k =>
        have hne : Lib.index l [c] ≠ -1 := fun e => by
          have := Lib.count_one c l
          rw [Lib.count_miss e] at this
          omega
        have hge := Lib.index_ge l [c]
        obtain ⟨j, hj⟩ : ∃ j : Nat, Lib.index l [c] = j := ⟨(Lib.index l [c]).toNat, by omega⟩
        have hix' : Lib.index (b :: l) [c] = ((j + 1 : Nat) : Int) := by rw [hix, if_neg (by simpa using hne), hj]; omega
        rw [Lib.splitK, Lib.splitK, hix', hj, if_neg (by simp; omega), if_neg (by simp)]
        simp
theorem join_tail (sep x : List UInt8) (r : List (List UInt8)) : Lib.join (x :: r) sep = x ++ Lib.joinTail sep r := Lib.join_cons x r sep
theorem join_cons2 (c : UInt8) (x y : List UInt8) (r : List (List UInt8)) : Lib.join (x :: y :: r) [c] = x ++ c :: Lib.join (y :: r) [c] := by
  rw [join_tail, join_tail]
  simp [Lib.joinTail]
theorem join_one (c : UInt8) (x : List UInt8) : Lib.join [x] [c] = x := Lib.join_one x [c]
theorem join_push (c b : UInt8) (x : List UInt8) (r : List (List UInt8)) : Lib.join ((b :: x) :: r) [c] = b :: Lib.join (x :: r) [c] := by
  rw [join_tail, join_tail]; rfl
theorem join_cut (c : UInt8) : ∀ s : List UInt8, Lib.join (cutL c s) [c] = s
  | [] => by simp [cutL, join_one]
  | b :: l => by
    have ih := join_cut c l
    unfold cutL
    split
    · rename_i h
      subst h
      rw [cutL_form, join_cons2, ← cutL_form, ih]; rfl
    · rw [join_push, ← cutL_form, ih]
theorem cut_skip (c : UInt8) (l : List UInt8) : ∀ x : List UInt8, (∀ b ∈ x, b ≠ c) → cutL c (x ++ l) = (x ++ (cutL c l).headD []) :: (cutL c l).tail
  | [], _ => cutL_form c l
  | b :: x, h => by
    rw [List.cons_append, cutL, if_neg (h b (by simp)), cut_skip c l x (fun d hd => h d (by simp [hd]))]
    simp
theorem cut_join (c : UInt8) : ∀ (r : List (List UInt8)) (x : List UInt8), (∀ y ∈ x :: r, ∀ b ∈ y, b ≠ c) → cutL c (Lib.join (x :: r) [c]) = x :: r
  | [], x, h => by
    rw [join_one]
    have := cut_skip c [] x (h x (by simp))
    simpa [cutL] using this
  | y :: r, x, h => by
    rw [join_cons2, cut_skip c _ x (h x (by simp))]
    have ih := cut_join c r y (fun z hz => h z (List.mem_cons_of_mem _ hz))
    have e : cutL c (c :: Lib.join (y :: r) [c]) = [] :: y :: r := by rw [cutL, if_pos rfl, ih]
    rw [e]; simp
theorem decDigits_all (u : Nat) : ∀ b ∈ Lib.decDigits u, 48 ≤ b.toNat ∧ b.toNat ≤ 57 := by
  induction u using Nat.strongRecOn with
  | _ u ih =>
    intro b hb
    rw [Lib.decDigits] at hb
    have dig : ∀ d, d < 10 → (UInt8.ofNat (48 + d)).toNat = 48 + d := fun d hd => by
      rw [UInt8.toNat_ofNat']; omega
    split at hb
    · rename_i h
      simp only [List.mem_singleton] at hb
      subst hb
      rw [dig u h]; omega
    · rename_i h
      rw [List.mem_append, List.mem_singleton] at hb
      rcases hb with hb | rfl
      · exact ih (u / 10) (by omega) b hb
      · rw [dig (u % 10) (by omega)]; omega
theorem decDigits_form (u : Nat) : ∃ b r, Lib.decDigits u = b :: r ∧ 48 ≤ b.toNat ∧ b.toNat ≤ 57 := by
  cases h : Lib.decDigits u with
  | nil =>
    have := Lib.decDigits_length u
    rw [h] at this
    have : 0 < Lib.nDigits u := by rw [Lib.nDigits]; split <;> omega
    simp at *; omega
  | cons b r => exact ⟨b, r, rfl, decDigits_all u b (by rw [h]; simp)⟩
theorem parseU_digits (u : Nat) : ∀ r, u ≤ 18446744073709551615 → Lib.parseUintM 18446744073709551615 0 (Lib.decDigits u ++ r) = Lib.parseUintM 18446744073709551615 u r := by
  induction u using Nat.strongRecOn with
  | _ u ih =>
    intro r hu
    have dig : ∀ d, d < 10 → (UInt8.ofNat (48 + d)).toNat = 48 + d := fun d hd => by
      rw [UInt8.toNat_ofNat']; omega
    rw [Lib.decDigits]
    split
    · rename_i h
      rw [List.singleton_append, Lib.parseUintM, dig u h, if_pos (by omega), if_neg (by omega), if_neg (by omega)]
      congr 1; omega
    · rename_i h
      rw [List.append_assoc, ih (u / 10) (by omega) _ (by omega), List.singleton_append, Lib.parseUintM, dig (u % 10) (by omega), if_pos (by omega), if_neg (by omega), if_neg (by omega)]
      congr 1; omega
theorem parse_itoa (v : Int) (h : -9223372036854775808 ≤ v ∧ v ≤ 9223372036854775807) : Lib.parseIntB 64 (Lib.itoa v) = .ok v := by
  unfold Lib.itoa
  have hM : (2 ^ 64 - 1 : Nat) = 18446744073709551615 := by decide
  have hH : (2 ^ (64 - 1) : Nat) = 9223372036854775808 := by decide
  obtain ⟨b, r, hf, hb⟩ := decDigits_form v.natAbs
  have hp := parseU_digits v.natAbs [] (by omega)
  rw [List.append_nil] at hp
  have hnil : Lib.parseUintM 18446744073709551615 v.natAbs [] = .ok v.natAbs := rfl
  rw [hnil] at hp
  by_cases hn : v < 0
  · rw [if_pos hn]
    unfold Lib.parseIntB
    have h45 : (45 : UInt8).toNat = 45 := rfl
    simp only [h45]
    unfold Lib.parseUintB
    simp only [hM, hH, or_true, if_true]
    rw [if_neg (by rw [hf]; simp), hp]
    simp only [not_true, false_and, if_false, true_and]
    rw [if_neg (by omega)]
    congr 1; omega
  · rw [if_neg hn]
    have e : v.toNat = v.natAbs := by omega
    rw [e, hf]
    unfold Lib.parseIntB
    have h45 : ¬ b.toNat = 45 := by omega
    have h43 : ¬ b.toNat = 43 := by omega
    simp only [h45, h43, or_self, if_false, not_false_eq_true, true_and, false_and]
    unfold Lib.parseUintB
    rw [hf] at hp
    simp only [hM, hH]
    rw [if_neg (by simp), hp]
    simp only
    rw [if_neg (by omega)]
    congr 1; omega
def numR (s : ByteArray) : Option Int := match Lib.parseIntB 64 s.data.toList with
  | .ok v => if Lib.itoa v = s.data.toList then some v else none
  | _ => none
def itoS (v : Int) : ByteArray := ⟨(Lib.itoa v).toArray⟩
theorem numR_some {s : ByteArray} {v : Int} (h : numR s = some v) : Lib.parseIntB 64 s.data.toList = .ok v ∧ s = itoS v := by
  unfold numR at h
  split at h
  · rename_i v' hv
    split at h
    · rename_i he
      obtain rfl := Option.some.inj h
      refine ⟨hv, ByteArray.ext ?_⟩
      show s.data = (Lib.itoa v').toArray
      rw [he]
    · cases h
  · cases h
theorem numR_ito (v : Int) (h : -9223372036854775808 ≤ v ∧ v ≤ 9223372036854775807) : numR (itoS v) = some v := by
  unfold numR
  rw [show (itoS v).data.toList = Lib.itoa v from rfl, parse_itoa v h]
  simp
theorem itoa_no (v : Int) : ∀ b ∈ Lib.itoa v, b ≠ 124 := by
  intro b hb e
  subst e
  unfold Lib.itoa at hb
  split at hb
  · rcases List.mem_cons.1 hb with h | h
    · exact absurd h (by decide)
    · have := (decDigits_all _ _ h).2
      exact absurd this (by decide)
  · have := (decDigits_all _ _ hb).2
    exact absurd this (by decide)
end Go.Proofs.YthflmdgfenojcaaGreatDoor
