/- The law Binds: plain facts. -/
import Derived.Test.YtodlholfhgicoaaDoorSma
namespace Go.Proofs.YtodlholfhgicoaaDoor
set_option linter.unusedVariables false
open Go.RowKit Go.Sort Go.Maps

abbrev m0 : ByteArray → Option Hst := fun _ => none
/-- What the first Check of another payment's code answers, at a checker that holds nothing. -/
theorem ckE_first (k : Nat) (t : ByteArray) (c a : Int) (cur nonce code : ByteArray) : ckE k 5 m0 0 t c a cur nonce code = if mkE t c a cur nonce ≠ 0 then mkE t c a cur nonce else if code ≠ mkV k t c a cur nonce then 19 else 0 := by
  have e : (if usedM m0 t c 5 = true then (15 : Int) else if (m0 t).isSome = false ∧ 64 ≤ 0 then 12 else 0) = 0 := by
    rw [if_neg (show ¬ usedM m0 t c 5 = true from by unfold usedM; simp), if_neg (fun h => absurd h.2 (by decide))]
  unfold ckE
  rw [e]
theorem mkE_range {t : ByteArray} {c a : Int} {cur nonce : ByteArray} (h : mkE t c a cur nonce = 0) : 1 ≤ c ∧ c ≤ 999999 := by
  unfold mkE at h
  split at h
  · omega
  · split at h
    · omega
    · omega
theorem mkV_bad {k : Nat} {t : ByteArray} {c a : Int} {cur nonce : ByteArray} (h : mkE t c a cur nonce ≠ 0) : mkV k t c a cur nonce = ⟨#[]⟩ := by
  unfold mkV
  rw [if_neg h]
theorem newH_first (c : Int) (h : 1 ≤ c) : newH (histOf none) c = (c, accF c.toNat (fun _ => false)) := by
  unfold newH
  rw [if_neg (show ¬ c ≤ (histOf none).1 from by show ¬ c ≤ 0; omega)]
  show (c, accF (c - 0).toNat _) = _
  rw [show c - 0 = c by omega]; rfl
/-- Behind the first acceptance: the greatest counter, and the same payment once more. -/
theorem last_first (t : ByteArray) (c : Int) (h : 1 ≤ c) : lastM (updM m0 t (newH (histOf (m0 t)) c)) t = c := by
  unfold lastM updM
  rw [if_pos rfl, show m0 t = none from rfl, newH_first c h]; rfl
theorem used_first (t : ByteArray) (c : Int) (h : 1 ≤ c) : usedM (updM m0 t (newH (histOf (m0 t)) c)) t c 5 = true := by
  have e : updM m0 t (newH (histOf (m0 t)) c) t = some (c, accF c.toNat (fun _ => false)) := by
    unfold updM
    rw [if_pos rfl, show m0 t = none from rfl, newH_first c h]
  unfold usedM
  rw [e]
  show (true && usedB c (accF c.toNat (fun _ => false)) c 5) = true
  unfold usedB
  rw [if_neg (by omega), if_neg (by omega), show (c - c).toNat = 0 by omega]
  rfl
end Go.Proofs.YtodlholfhgicoaaDoor
