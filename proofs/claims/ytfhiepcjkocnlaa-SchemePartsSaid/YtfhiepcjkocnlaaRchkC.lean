/- The walk of the reference's Check: one theorem for each kind of list. A price that is too great. -/
import Derived.Test.YtfhiepcjkocnlaaChk
namespace Go.Proofs.Ytfhiepcjkocnlaa
set_option linter.unusedVariables false
open Go.RowKit

set_option maxHeartbeats 12800000 in
/-- A price is too great. -/
theorem rchk_high (A : Option Addr) (c : Nat) (l : List Tr) (w : World) (hr : IsRow w A (cellsT l)) (hz : l.length ≠ 0) (h64 : ¬ 64 < l.length) (i : Nat) (hi : i < l.length) (hall : ∀ j, j < i → goodT l j) (h1 : i = 0 → (l.getD 0 default).f = 1) (h2 : 0 < i → (l.getD (i - 1) default).f < (l.getD i default).f) (hq0 : 0 ≤ (l.getD i default).p) (hq : 1000000000 < (l.getD i default).p) :
    Calls Try.prog 17 #[.slice A l.length c] w fun e w' => e = .returned (.int .i64 (chkE l)) ∧ Below w.heap.size w w' := by
  have hzb : ((l.length : Int) == 0) = false := beq_eq_false_iff_ne.2 (by omega)
  have hl : l.length ≤ 64 := by omega
  rcases hr with h0 | ⟨b, off, rfl, hc⟩
  · rw [cellsT_length] at h0; omega
  have HC := Lib.hid hc
  have HA := Lib.hid hall
  have he := Lib.hid (chkE_no hz h64 i hi (fun hg => by have := hg.2.2.2; omega))
  have hi' : i ≤ l.length := by omega
  clear hz hc hall
  go_enter Try.func17, Try.ntmps17
  go_wp2_with fail
  clear hzb
  go_loopw [3] (fun x wr => ∃ k m : Nat, k ≤ i ∧ x = .int .i64 k ∧ wr = w.drewN m) (fun x _ => l.length - (intOf x).toNat)
  case atStart => exact ⟨0, 0, Nat.zero_le _, rfl, rfl⟩
  case round =>
    obtain ⟨k, m, hk, rfl, rfl⟩ := hrel
    by_cases hlt : k < i
    · have hkl : k < l.length := by omega
      obtain ⟨c0, c1⟩ := row_tier HC.out k hkl
      have hcp := (row_tier HC.out (k - 1) (by omega)).1
      rw [← getD_at l k hkl] at c0 c1
      rw [← getD_at l (k - 1) (by omega)] at hcp
      have hgd := HA.out k hlt
      obtain ⟨g1, g2, g3, g4⟩ := hgd
      rcases Nat.eq_zero_or_pos k with hk0 | hk0
      · have q2 := g1 hk0
        obtain ⟨fk, hfk⟩ : ∃ fk, (l.getD k default).f = fk := ⟨_, rfl⟩
        obtain ⟨pk, hpk⟩ : ∃ pk, (l.getD k default).p = pk := ⟨_, rfl⟩
        rw [hfk] at c0
        rw [hpk] at c1 g3 g4
        have f1 : (fk != 1) = false := by simp only [bne_eq_false_iff_eq]; rw [← hfk, hk0]; exact q2
        have k0 : ((k : Int) == 0) = true := beq_iff_eq.2 (by omega)
        have kn : ¬ (0 < (k : Int)) := by omega
        rw [hk0, Nat.zero_mul, Nat.add_zero] at c0 c1
        have d1 : decide (pk < 0) = false := decide_eq_false (by omega)
        have d2 : decide (1000000000 < pk) = false := decide_eq_false (by omega)
        clear g1 g2 hcp q2 hfk hpk
        go_wp2_with fail
        go_big_quiet (fail)
        go_wp2_with fail
        go_roundw
        case rel => exact ⟨k + 1, _, by omega, by go_num, rfl⟩
        case measure => simp [intOf]; omega
      · have q2 := g2 hk0
        clear g1 g2
        obtain ⟨fk, hfk⟩ : ∃ fk, (l.getD k default).f = fk := ⟨_, rfl⟩
        obtain ⟨pk, hpk⟩ : ∃ pk, (l.getD k default).p = pk := ⟨_, rfl⟩
        obtain ⟨fp, hfp⟩ : ∃ fp, (l.getD (k - 1) default).f = fp := ⟨_, rfl⟩
        rw [hfk] at c0 q2
        rw [hpk] at c1 g3 g4
        rw [hfp] at hcp q2
        clear hfk hpk hfp
        have k0 : ((k : Int) == 0) = false := beq_eq_false_iff_ne.2 (by omega)
        have kp : decide (0 < (k : Int)) = true := decide_eq_true (by omega)
        have d0 : decide (fk ≤ fp) = false := decide_eq_false (by omega)
        have d1 : decide (pk < 0) = false := decide_eq_false (by omega)
        have d2 : decide (1000000000 < pk) = false := decide_eq_false (by omega)
        go_wp2_with fail
        go_big_quiet (fail)
        go_wp2_with fail
        go_roundw
        case rel => exact ⟨k + 1, _, by omega, by go_num, rfl⟩
        case measure => simp [intOf]; omega
    · obtain rfl : k = i := by omega
      obtain ⟨c0, c1⟩ := row_tier HC.out k hi
      rw [← getD_at l k hi] at c0 c1
      have hcp := (row_tier HC.out (k - 1) (by omega)).1
      rw [← getD_at l (k - 1) (by omega)] at hcp
      rcases Nat.eq_zero_or_pos k with hk0 | hk0
      · have q2 := h1 hk0
        obtain ⟨fk, hfk⟩ : ∃ fk, (l.getD k default).f = fk := ⟨_, rfl⟩
        obtain ⟨pk, hpk⟩ : ∃ pk, (l.getD k default).p = pk := ⟨_, rfl⟩
        rw [hfk] at c0
        rw [hpk] at c1 hq0 hq
        have f1 : (fk != 1) = false := by simp only [bne_eq_false_iff_eq]; rw [← hfk, hk0]; exact q2
        have k0 : ((k : Int) == 0) = true := beq_iff_eq.2 (by omega)
        have kn : ¬ (0 < (k : Int)) := by omega
        rw [hk0, Nat.zero_mul, Nat.add_zero] at c0 c1
        have d1 : decide (pk < 0) = false := decide_eq_false (by omega)
        have d2 : decide (1000000000 < pk) = true := decide_eq_true hq
        clear h1 h2 hcp q2 hfk hpk
        go_wp2_with fail
        go_big_quiet (fail)
        go_wp2_with fail
        go_ret
        exact ⟨by rw [he.out]; rfl, dNb (below_drewN w m) _⟩
      · have q2 := h2 hk0
        clear h1 h2
        obtain ⟨fk, hfk⟩ : ∃ fk, (l.getD k default).f = fk := ⟨_, rfl⟩
        obtain ⟨pk, hpk⟩ : ∃ pk, (l.getD k default).p = pk := ⟨_, rfl⟩
        obtain ⟨fp, hfp⟩ : ∃ fp, (l.getD (k - 1) default).f = fp := ⟨_, rfl⟩
        rw [hfk] at c0 q2
        rw [hpk] at c1 hq0 hq
        rw [hfp] at hcp q2
        clear hfk hpk hfp
        have k0 : ((k : Int) == 0) = false := beq_eq_false_iff_ne.2 (by omega)
        have kp : decide (0 < (k : Int)) = true := decide_eq_true (by omega)
        have d0 : decide (fk ≤ fp) = false := decide_eq_false (by omega)
        have d1 : decide (pk < 0) = false := decide_eq_false (by omega)
        have d2 : decide (1000000000 < pk) = true := decide_eq_true hq
        go_wp2_with fail
        go_big_quiet (fail)
        go_wp2_with fail
        go_ret
        exact ⟨by rw [he.out]; rfl, dNb (below_drewN w m) _⟩

end Go.Proofs.Ytfhiepcjkocnlaa
