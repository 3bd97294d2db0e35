/- The parts of a split add up and lie near their exact shares: the plain law of MoneySplits. No walk. -/
import Derived.Test.YtadehobimlpmcaaDoorSpt
namespace Go.Proofs.YtadehobimlpmcaaDoor
set_option linter.unusedVariables false

def sumI (f : Nat → Int) : Nat → Int
  | 0 => 0
  | k + 1 => sumI f k + f k
theorem sumI_amt (a : Int) (W S : Nat) (N : List Nat) : ∀ k, sumI (amtF a W S N) k = if a < 0 then -(sumTo (partOf W S N) k : Int) else (sumTo (partOf W S N) k : Int)
  | 0 => by simp [sumI, sumTo]
  | k + 1 => by
    rw [sumI, sumI_amt a W S N k, sumTo]
    unfold amtF
    split <;> omega
theorem natsOf_len (ws : List Int) : (natsOf ws).length = ws.length := by simp [natsOf]
theorem part_le (W S : Nat) (ws : List Nat) (hS : S = sumTo (fun i => ws.getD i 0) ws.length) (h0 : 0 < S) (k : Nat) (hk : k < ws.length) : partOf W S ws k ≤ W := by
  have h1 := part_sum W S ws hS h0
  have h2 := sumTo_mono (f := partOf W S ws) (i := k + 1) (k := ws.length) (by omega)
  rw [sumTo] at h2
  omega
structure SplF (a : Int) (ws : List Int) (f : Nat → Int) (S : Nat) : Prop where
  small : ∀ k, k < ws.length → (f k).natAbs ≤ a.natAbs
  zero : ∀ k, k < ws.length → ws.getD k 0 = 0 → f k = 0
  near : ∀ k, k < ws.length → -(S : Int) < f k * S - a * ws.getD k 0 ∧ f k * S - a * ws.getD k 0 < S
  sumB : ∀ k, k ≤ ws.length → (sumI f k).natAbs ≤ a.natAbs
  sum : sumI f ws.length = a
theorem spl_facts (a : Int) (ws : List Int) (hw : ∀ k, k < ws.length → 0 ≤ ws.getD k 0) (h0 : 0 < totW ws ws.length) : SplF a ws (amtF a a.natAbs (totW ws ws.length) (natsOf ws)) (totW ws ws.length) := by
  have hS : totW ws ws.length = sumTo (fun i => (natsOf ws).getD i 0) (natsOf ws).length := by rw [natsOf_len]; rfl
  obtain ⟨S, hSS⟩ : ∃ S, totW ws ws.length = S := ⟨_, rfl⟩
  rw [hSS] at hS h0 ⊢
  have hps := part_sum a.natAbs S (natsOf ws) hS h0
  refine ⟨fun k hk => ?_, fun k hk hz => ?_, fun k hk => ?_, fun k hk => ?_, ?_⟩
  · have := part_le a.natAbs S (natsOf ws) hS h0 k (by rw [natsOf_len]; exact hk)
    unfold amtF
    split <;> omega
  · have := part_zero a.natAbs S (natsOf ws) hS h0 (i := k) (by rw [natsOf_at, hz]; rfl)
    unfold amtF
    rw [this]
    split <;> rfl
  · obtain ⟨-, h1, h2, h3⟩ := part_near a.natAbs S (natsOf ws) hS h0 k
    have hwk := hw k hk
    rw [natsOf_at] at h1
    obtain ⟨x, hx⟩ := Int.eq_ofNat_of_zero_le hwk
    rw [hx] at h1 ⊢
    rw [Int.toNat_natCast] at h1
    have h1' : (S : Int) * (partOf a.natAbs S (natsOf ws) k : Int) + ((if rk (natsOf ws).length (rOf a.natAbs S (natsOf ws)) k < leftOf a.natAbs S (natsOf ws) then 0 else rOf a.natAbs S (natsOf ws) k : Nat) : Int) = (a.natAbs : Int) * (x : Int) + ((if rk (natsOf ws).length (rOf a.natAbs S (natsOf ws)) k < leftOf a.natAbs S (natsOf ws) then S - rOf a.natAbs S (natsOf ws) k else 0 : Nat) : Int) := by exact_mod_cast h1
    unfold amtF
    generalize partOf a.natAbs S (natsOf ws) k = p at *
    generalize rOf a.natAbs S (natsOf ws) k = r at *
    by_cases q : a < 0
    · rw [if_pos q]
      obtain ⟨b, rfl⟩ : ∃ b, a = -b := ⟨-a, by omega⟩
      have hb : ((-b).natAbs : Int) = b := by omega
      rw [hb] at h1'
      rw [Int.neg_mul, Int.neg_mul, Int.mul_comm (p : Int) S]
      generalize (S : Int) * (p : Int) = P at *
      generalize b * (x : Int) = Q at *
      split at h1' <;> omega
    · rw [if_neg q]
      have hb : (a.natAbs : Int) = a := by omega
      rw [hb] at h1'
      rw [Int.mul_comm (p : Int) S]
      generalize (S : Int) * (p : Int) = P at *
      generalize a * (x : Int) = Q at *
      split at h1' <;> omega
  · rw [sumI_amt]
    have := sumTo_mono (f := partOf a.natAbs S (natsOf ws)) (i := k) (k := (natsOf ws).length) (by rw [natsOf_len]; exact hk)
    split <;> omega
  · rw [sumI_amt]
    rw [natsOf_len] at hps
    rw [hps]
    split <;> omega
theorem mul_bd {n : Int} {N S B : Nat} (h1 : n.natAbs ≤ N) (h2 : S ≤ B) : -((N * B : Nat) : Int) ≤ n * S ∧ n * S ≤ ((N * B : Nat) : Int) := by
  have h := Nat.mul_le_mul h1 h2
  have e : (n * (S : Int)).natAbs = n.natAbs * S := by rw [Int.natAbs_mul]; rfl
  omega
end Go.Proofs.YtadehobimlpmcaaDoor
