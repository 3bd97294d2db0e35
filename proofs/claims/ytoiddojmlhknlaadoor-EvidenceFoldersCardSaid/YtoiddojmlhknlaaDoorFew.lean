/- The walks of few and shorts. -/
import Derived.Test.YtoiddojmlhknlaaDoorAwake
namespace Go.Proofs.YtoiddojmlhknlaaDoor
set_option linter.unusedVariables false
open Go.RowKit Go.Maps

def fewB (l : List Itm) : Bool := decide (l.length ≤ 40 ∧ ∀ x ∈ l, x.k.size ≤ 100)
theorem few_no (l : List Itm) (k : Nat) (hk : k < l.length) (h : 40 ≤ k ∨ 100 < l[k].k.size) : fewB l = false := by
  apply decide_eq_false
  rintro ⟨a, b⟩
  have := b l[k] (List.getElem_mem hk)
  omega
theorem few_yes (l : List Itm) (h : l.length ≤ 40) (h2 : ∀ j, (hj : j < l.length) → l[j].k.size ≤ 100) : fewB l = true := by
  apply decide_eq_true
  refine ⟨h, fun x hx => ?_⟩
  obtain ⟨i, hi, rfl⟩ := List.getElem_of_mem hx
  exact h2 i hi
set_option maxHeartbeats 800000 in
theorem few_any (A : Option Addr) (c : Nat) (l : List Itm) (w : World) (hr : IsRow w A (cellsOf l)) (hl : l.length ≤ maxLen) (hs : ∀ x ∈ l, x.k.size ≤ maxLen) :
    Calls Tryd.prog 5 #[.slice A l.length c] w fun e w' => e = .returned (.bool (fewB l)) ∧ w = w' := by
  have HR := Lib.hid hr
  have HS := Lib.hid hs
  clear hr hs
  unfold maxLen at hl
  go_enter Tryd.func5, Tryd.ntmps5
  go_wp2_with fail
  go_loop [3] (fun i => ∃ k : Nat, k ≤ l.length ∧ k ≤ 40 ∧ i = .int .i64 k ∧ Hid (∀ j, (hj : j < l.length) → j < k → l[j].k.size ≤ 100)) (fun i => 41 - (intOf i).toNat)
  case atStart => exact ⟨0, Nat.zero_le _, by omega, rfl, Lib.hid (fun j hj h => by omega)⟩
  case round =>
    obtain ⟨k, hk, hk40, rfl, hall⟩ := hrel
    by_cases hlt : k < l.length
    · rcases HR.out with h0 | ⟨b, off, ha, hc⟩
      · rw [cellsOf_length] at h0; omega
      subst ha
      obtain ⟨c0, _, _⟩ := row_item hc k hlt
      have hno := Lib.hid (few_no l k hlt)
      have hsz := HS.out l[k] (List.getElem_mem hlt)
      unfold maxLen at hsz
      by_cases h40 : k < 40
      · by_cases h100 : l[k].k.size ≤ 100
        · have HN : Hid (∀ j, (hj : j < l.length) → j < k + 1 → l[j].k.size ≤ 100) := Lib.hid (fun j hj h => by
            rcases Nat.lt_or_ge j k with q | q
            · exact hall.out j hj q
            · obtain rfl : j = k := by omega
              exact h100)
          clear hc hno
          generalize l[k] = x at *
          go_wp2_with fail
          go_round
          case rel => exact ⟨k + 1, by omega, by omega, by go_num, HN⟩
          case measure => simp [intOf]; omega
        · have hN := Lib.hid (hno.out (.inr (by omega)))
          clear hc hno
          generalize l[k] = x at *
          go_wp2_with fail
          go_ret
          exact ⟨by rw [hN.out]; rfl, rfl⟩
      · have hN := Lib.hid (hno.out (.inl (by omega)))
        clear hc hno
        generalize l[k] = x at *
        go_wp2_with fail
        go_ret
        exact ⟨by rw [hN.out]; rfl, rfl⟩
    · obtain rfl : k = l.length := by omega
      have hY := Lib.hid (few_yes l (by omega) (fun j hj => hall.out j hj hj))
      go_wp2_with fail
      go_ret
      exact ⟨by rw [hY.out]; rfl, rfl⟩
def shortB (l : List ByteArray) : Bool := decide (l.length ≤ 40 ∧ ∀ x ∈ l, x.size ≤ 100)
theorem short_no (l : List ByteArray) (k : Nat) (hk : k < l.length) (h : 40 ≤ k ∨ 100 < l[k].size) : shortB l = false := by
  apply decide_eq_false
  rintro ⟨a, b⟩
  have := b l[k] (List.getElem_mem hk)
  omega
theorem short_yes (l : List ByteArray) (h : l.length ≤ 40) (h2 : ∀ j, (hj : j < l.length) → l[j].size ≤ 100) : shortB l = true := by
  apply decide_eq_true
  refine ⟨h, fun x hx => ?_⟩
  obtain ⟨i, hi, rfl⟩ := List.getElem_of_mem hx
  exact h2 i hi
set_option maxHeartbeats 800000 in
theorem shorts_any (A : Option Addr) (c : Nat) (l : List ByteArray) (w : World) (hr : IsRow w A (strsOf l)) (hl : l.length ≤ maxLen) (hs : ∀ x ∈ l, x.size ≤ maxLen) :
    Calls Tryd.prog 6 #[.slice A l.length c] w fun e w' => e = .returned (.bool (shortB l)) ∧ w = w' := by
  have HR := Lib.hid hr
  have HS := Lib.hid hs
  clear hr hs
  unfold maxLen at hl
  go_enter Tryd.func6, Tryd.ntmps6
  go_wp2_with fail
  go_loop [3] (fun i => ∃ k : Nat, k ≤ l.length ∧ k ≤ 40 ∧ i = .int .i64 k ∧ Hid (∀ j, (hj : j < l.length) → j < k → l[j].size ≤ 100)) (fun i => 41 - (intOf i).toNat)
  case atStart => exact ⟨0, Nat.zero_le _, by omega, rfl, Lib.hid (fun j hj h => by omega)⟩
  case round =>
    obtain ⟨k, hk, hk40, rfl, hall⟩ := hrel
    by_cases hlt : k < l.length
    · rcases HR.out with h0 | ⟨b, off, ha, hc⟩
      · rw [strsOf_length] at h0; omega
      subst ha
      have c0 := strs_at hc k hlt
      have hno := Lib.hid (short_no l k hlt)
      have hsz := HS.out l[k] (List.getElem_mem hlt)
      unfold maxLen at hsz
      by_cases h40 : k < 40
      · by_cases h100 : l[k].size ≤ 100
        · have HN : Hid (∀ j, (hj : j < l.length) → j < k + 1 → l[j].size ≤ 100) := Lib.hid (fun j hj h => by
            rcases Nat.lt_or_ge j k with q | q
            · exact hall.out j hj q
            · obtain rfl : j = k := by omega
              exact h100)
          clear hc hno
          generalize l[k] = x at *
          go_wp2_with fail
          go_round
          case rel => exact ⟨k + 1, by omega, by omega, by go_num, HN⟩
          case measure => simp [intOf]; omega
        · have hN := Lib.hid (hno.out (.inr (by omega)))
          clear hc hno
          generalize l[k] = x at *
          go_wp2_with fail
          go_ret
          exact ⟨by rw [hN.out]; rfl, rfl⟩
      · have hN := Lib.hid (hno.out (.inl (by omega)))
        clear hc hno
        generalize l[k] = x at *
        go_wp2_with fail
        go_ret
        exact ⟨by rw [hN.out]; rfl, rfl⟩
    · obtain rfl : k = l.length := by omega
      have hY := Lib.hid (short_yes l (by omega) (fun j hj => hall.out j hj hj))
      go_wp2_with fail
      go_ret
      exact ⟨by rw [hY.out]; rfl, rfl⟩
end Go.Proofs.YtoiddojmlhknlaaDoor
