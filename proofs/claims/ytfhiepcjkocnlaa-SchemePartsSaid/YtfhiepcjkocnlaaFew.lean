/- The walk of few; what the shares add up to. -/
import Derived.Test.YtfhiepcjkocnlaaSha
import Derived.Test.YtfhiepcjkocnlaaAwake
import Derived.Test.YtfhiepcjkocnlaaOpen
namespace Go.Proofs.Ytfhiepcjkocnlaa
set_option linter.unusedVariables false
open Go.RowKit

def fewB (l : List Tr) (v : List Vol) : Bool := decide (v.length ≤ 30) && v.all (fun x => decide (x.s.size ≤ 100)) && decide (l.length ≤ 100)
theorem fewB_len {l : List Tr} {v : List Vol} (h : ¬ v.length ≤ 30) : fewB l v = false := by unfold fewB; rw [decide_eq_false h]; rfl
theorem fewB_no {l : List Tr} {v : List Vol} (k : Nat) (hk : k < v.length) (h : ¬ (v.getD k default).s.size ≤ 100) : fewB l v = false := by
  unfold fewB
  have : v.all (fun x => decide (x.s.size ≤ 100)) = false := by
    rw [List.all_eq_false]
    exact ⟨v[k], List.getElem_mem hk, by rw [← getV_at v k hk, decide_eq_false h]; simp⟩
  rw [this, Bool.and_false]; rfl
theorem fewB_yes {l : List Tr} {v : List Vol} (h1 : v.length ≤ 30) (h2 : ∀ j, j < v.length → (v.getD j default).s.size ≤ 100) : fewB l v = decide (l.length ≤ 100) := by
  unfold fewB
  have : v.all (fun x => decide (x.s.size ≤ 100)) = true := by
    rw [List.all_eq_true]
    intro x hx
    obtain ⟨i, hi, rfl⟩ := List.mem_iff_getElem.1 hx
    rw [← getV_at v i hi, decide_eq_true (h2 i hi)]
  rw [this, decide_eq_true h1]; rfl
theorem fewB_facts {l : List Tr} {v : List Vol} (h : fewB l v = true) : v.length ≤ 30 ∧ l.length ≤ 100 := by
  unfold fewB at h
  simp at h
  exact ⟨h.1.1, h.2⟩
set_option maxHeartbeats 1600000 in
theorem few_any (A : Option Addr) (c : Nat) (l : List Tr) (B : Option Addr) (d : Nat) (v : List Vol) (w : World) (hl : l.length ≤ maxLen) (hv : IsRow w B (cellsV v)) (hvl : v.length ≤ maxLen) (hns : ∀ x ∈ v, x.s.size ≤ maxLen) :
    Calls Try.prog 8 #[.slice A l.length c, .slice B v.length d] w fun e w' => e = .returned (.bool (fewB l v)) ∧ w = w' := by
  unfold maxLen at hl hvl hns
  have HV := Lib.hid hv
  have HNS := Lib.hid hns
  clear hv hns
  go_enter Try.func8, Try.ntmps8
  go_wp2_with fail
  go_loop [5] (fun i => ∃ k : Nat, k ≤ v.length ∧ k ≤ 30 ∧ i = .int .i64 k ∧ Hid (∀ j, j < k → (v.getD j default).s.size ≤ 100)) (fun i => v.length - (intOf i).toNat)
  case atStart => exact ⟨0, Nat.zero_le _, by omega, rfl, Lib.hid (fun j h => by omega)⟩
  case round =>
    obtain ⟨k, hk, h30, rfl, hall⟩ := hrel
    by_cases hlt : k < v.length
    · by_cases hk30 : 30 ≤ k
      · have HF := Lib.hid (fewB_len (l := l) (v := v) (by omega))
        have q : (30 : Int) ≤ (k : Int) := by omega
        go_wp2_with fail
        go_ret
        exact ⟨by rw [HF.out]; rfl, rfl⟩
      · rcases HV.out with h0 | ⟨b, off, rfl, hc⟩
        · rw [cellsV_length] at h0; omega
        have d0 := (row_vol hc k hlt).1
        have hN := Lib.hid (fewB_no (l := l) k hlt)
        have hst := Lib.hid (show (v.getD k default).s.size ≤ 100 → ∀ j, j < k + 1 → (v.getD j default).s.size ≤ 100 from fun h j hj => by
          rcases Nat.lt_or_ge j k with q | q
          · exact hall.out j q
          · obtain rfl : j = k := by omega
            exact h)
        have hsz := HNS.out (v.getD k default) (by rw [getV_at v k hlt]; exact List.getElem_mem hlt)
        obtain ⟨xs, hxs⟩ : ∃ xs, (v.getD k default).s = xs := ⟨_, rfl⟩
        rw [hxs] at d0 hN hst hsz
        have q : ¬ (30 : Int) ≤ (k : Int) := by omega
        clear hc hxs
        by_cases h100 : xs.size ≤ 100
        · have HALL := Lib.hid (hst.out h100)
          have q2 : ¬ (100 : Int) < (xs.size : Int) := by omega
          go_wp2_with fail
          go_round
          case rel => exact ⟨k + 1, by omega, by omega, by go_num, HALL⟩
          case measure => simp [intOf]; omega
        · have HF := Lib.hid (hN.out h100)
          have q2 : (100 : Int) < (xs.size : Int) := by omega
          go_wp2_with fail
          go_ret
          exact ⟨by rw [HF.out]; rfl, rfl⟩
    · obtain rfl : k = v.length := by omega
      have HF := Lib.hid (show fewB l v = decide ((l.length : Int) ≤ 100) by rw [fewB_yes (l := l) h30 hall.out]; congr 1; exact propext (by omega))
      go_wp2_with fail
      go_ret
      exact ⟨by rw [HF.out]; rfl, rfl⟩
/-! ### The sum of the shares -/
def sumI (f : Nat → Int) : Nat → Int
  | 0 => 0
  | k + 1 => sumI f k + f k
theorem sumI_nat {f : Nat → Int} {g : Nat → Nat} : ∀ k, (∀ i, i < k → f i = (g i : Int)) → sumI f k = (sumTo g k : Int)
  | 0, _ => rfl
  | k + 1, h => by rw [sumI, sumTo, sumI_nat k (fun i hi => h i (by omega)), h k (by omega)]; omega
/-- What SchemeShares says of the shares. -/
structure Shares (t : List Tr) (v : List Vol) : Prop where
  lo : ∀ i, i < v.length → 0 ≤ shareF t v i
  zero : ∀ i, i < v.length → (v.getD i default).c = 0 → shareF t v i = 0
  part : ∀ k, k ≤ v.length → 0 ≤ sumI (shareF t v) k ∧ sumI (shareF t v) k ≤ wholeV t v
  all : sumI (shareF t v) v.length = wholeV t v
theorem shares_of {t : List Tr} {v : List Vol} (h : wholeE t v = 0) : Shares t v := by
  have hw := whole_ok h
  by_cases h0 : sumC v v.length = 0
  · have hz : ∀ i, shareF t v i = 0 := fun i => by unfold shareF; rw [if_pos h0]
    have hs : ∀ k, sumI (shareF t v) k = 0 := fun k => by
      induction k with
      | zero => rfl
      | succ k ih => rw [sumI, ih, hz k]; rfl
    have hfee : wholeV t v = 0 := by
      rw [hw.val, h0]
      have hok := okT_of_chk hw.chk
      have hf0 := fee_zero hok
      have := (fee_val hw.chk (show (0 : Int) ≤ 0 by omega) (by omega) hf0 (by omega)).2 (by decide)
      rw [this.2]; decide
    exact ⟨fun i _ => by rw [hz]; omega, fun i _ _ => hz i, fun k _ => by rw [hs, hfee]; omega, by rw [hs, hfee]⟩
  · have htot := tot_sum v.length hw.all
    have hcnt := hw.cnt
    have hlo := hw.lo
    have hlen : (natsOf (countsV v)).length = v.length := by simp [natsOf, countsV]
    obtain ⟨N, hN⟩ : ∃ N, natsOf (countsV v) = N := ⟨_, rfl⟩
    obtain ⟨S, hS⟩ : ∃ S, totW (countsV v) v.length = S := ⟨_, rfl⟩
    obtain ⟨W, hW⟩ : ∃ W, (wholeV t v).natAbs = W := ⟨_, rfl⟩
    have hsh : ∀ i, shareF t v i = (partOf W S N i : Int) := fun i => by
      unfold shareF
      rw [if_neg h0, hN, hS, hW, amtF_pos hlo]
    have hSn : S = sumTo (fun i => N.getD i 0) N.length := by rw [← hN, hlen, ← hS]; rfl
    rw [hS] at htot
    have hS0 : 0 < S := by omega
    have hsum := part_sum W S N hSn hS0
    have hz := fun i => part_zero W S N hSn hS0 (i := i)
    rw [hN] at hlen
    rw [hlen] at hsum
    have hall : ∀ k, sumI (shareF t v) k = (sumTo (partOf W S N) k : Int) := fun k => sumI_nat k (fun i _ => hsh i)
    refine ⟨fun i _ => by rw [hsh]; omega, fun i hi hc => ?_, fun k hk => ?_, ?_⟩
    · rw [hsh, hz i (by rw [← hN, natsOf_at, countsV_at, hc]; rfl)]; rfl
    · rw [hall]
      have := sumTo_mono (f := partOf W S N) hk
      omega
    · rw [hall, hsum]; omega
end Go.Proofs.Ytfhiepcjkocnlaa
